/- Plain laws and walks: OnceP, OnceN, OnceR. -/
import Derived.Test.YthmfmpkkbgapoaaGs
-- OnceP
/- session: two ends, lost, doubled and late posts: what an end hears is a beginning of what was said: plain laws. -/
set_option linter.unusedSimpArgs false
set_option linter.unusedVariables false
namespace Go.Proofs.Ythmfmpkkbgapoaa.Ses
open Go.RowKit
structure Side where
  c : Ch
  said : List ByteArray
  heard : List ByteArray
  way : List Post
structure Old where
  mine : Int
  yours : Int
  said : List ByteArray
def Old.is (A B : Int) (e : Old) : Bool := decide (e.mine = A) && decide (e.yours = B)
/-- what was said in sessions that are over -/
def oldSaid (old : List Old) (A B : Int) : List ByteArray := ((old.find? (Old.is A B)).map Old.said).getD []
/-- what an end said in a session, now or once -/
def SAID (o : Side) (old : List Old) (A B : Int) : List ByteArray := if o.c.mine = A ∧ o.c.yours = B then o.said else oldSaid old A B
theorem oldSaid_append (old : List Old) (e : Old) (A B : Int) : oldSaid (old ++ [e]) A B = if (old.find? (Old.is A B)).isSome then oldSaid old A B else if e.is A B then e.said else [] := by
  unfold oldSaid
  rw [List.find?_append]
  cases h : old.find? (Old.is A B) with
  | some x => simp
  | none =>
    simp only [Option.none_or, Option.isSome_none, Bool.false_eq_true, if_false]
    rw [List.find?_cons]
    cases h2 : e.is A B <;> simp
theorem oldSaid_grow (old : List Old) (e : Old) (A B : Int) : oldSaid old A B <+: oldSaid (old ++ [e]) A B := by
  rw [oldSaid_append]
  split
  · exact List.prefix_refl _
  · rename_i h
    have : oldSaid old A B = [] := by
      unfold oldSaid
      cases h2 : old.find? (Old.is A B) with
      | none => rfl
      | some x => rw [h2] at h; simp at h
    rw [this]
    exact List.nil_prefix
theorem oldSaid_none {old : List Old} {A B : Int} (h : ∀ e ∈ old, ¬ (e.mine = A ∧ e.yours = B)) : old.find? (Old.is A B) = none := by
  rw [List.find?_eq_none]
  intro e he hc
  unfold Old.is at hc
  rw [Bool.and_eq_true, decide_eq_true_eq, decide_eq_true_eq] at hc
  exact h e he hc
/-- a post that is under way to an end -/
structure Good (o : Side) (old : List Old) (x : Post) : Prop where
  ok : okPost x = true
  le : x.mine ≤ o.c.mine
  text : 0 < x.seq → ∃ i : Nat, x.seq = i + 1 ∧ (SAID o old x.mine x.yours)[i]? = some x.text
/-- an end, seen from itself -/
structure Self (T : Nat) (next : Int) (d : Side) (old : List Old) : Prop where
  m1 : 1 ≤ d.c.mine
  m2 : d.c.mine ≤ next
  y0 : 0 ≤ d.c.yours
  f1 : 1 ≤ d.c.first
  wait : ∃ a, d.said = a ++ d.c.wait ∧ (a.length : Int) = d.c.first - 1
  len : d.said.length ≤ T
  small : ∀ t ∈ d.said, t.size ≤ 65472
  lastT : d.c.last ≤ T
  uniq : ∀ e ∈ old, e.mine = d.c.mine → e.yours < d.c.yours
/-- an end, as it hears the other one -/
structure Hears (d o : Side) (old : List Old) : Prop where
  last : d.c.last = d.heard.length
  yo : d.c.yours ≤ o.c.mine
  pre : d.heard <+: SAID o old d.c.yours d.c.mine
  way : ∀ x ∈ d.way, Good o old x
structure Inv (T : Nat) (next : Int) (d o : Side) (old : List Old) : Prop where
  nT : next ≤ T + 2
  d1 : Self T next d old
  o1 : Self T next o old
  d2 : Hears d o old
  o2 : Hears o d old
  ne : d.c.mine ≠ o.c.mine
  olds : ∀ e ∈ old, e.mine ≤ next
theorem Inv.swap {T : Nat} {next : Int} {d o : Side} {old : List Old} (h : Inv T next d o old) : Inv T next o d old := ⟨h.nT, h.o1, h.d1, h.o2, h.d2, h.ne.symm, h.olds⟩
def Grows (o : Side) (old : List Old) (o' : Side) (old' : List Old) : Prop := ∀ A B, SAID o old A B <+: SAID o' old' A B
theorem prefix_get {α : Type} {l m : List α} (h : l <+: m) {i : Nat} {x : α} (hi : l[i]? = some x) : m[i]? = some x := by
  obtain ⟨t, rfl⟩ := h
  rw [List.getElem?_append_left (List.getElem?_eq_some_iff.1 hi).1]
  exact hi
theorem Good.grow {o o' : Side} {old old' : List Old} {x : Post} (h : Good o old x) (hg : Grows o old o' old') (hm : o.c.mine ≤ o'.c.mine) : Good o' old' x :=
  ⟨h.ok, Int.le_trans h.le hm, fun hs => by
    obtain ⟨i, h1, h2⟩ := h.text hs
    exact ⟨i, h1, prefix_get (hg _ _) h2⟩⟩
theorem Hears.grow {d o o' : Side} {old old' : List Old} (h : Hears d o old) (hg : Grows o old o' old') (hm : o.c.mine ≤ o'.c.mine) : Hears d o' old' :=
  ⟨h.last, Int.le_trans h.yo hm, h.pre.trans (hg _ _), fun x hx => (h.way x hx).grow hg hm⟩
theorem Grows.refl (o : Side) (old : List Old) : Grows o old o old := fun A B => List.prefix_refl _
/-- the same end's words, among more sessions that are over -/
theorem Grows.old (o : Side) (old : List Old) (e : Old) : Grows o old o (old ++ [e]) := fun A B => by
  unfold SAID
  split
  · exact List.prefix_refl _
  · exact oldSaid_grow _ _ _ _
/-- the end goes over to another session -/
theorem Grows.over {T : Nat} {next : Int} {d d' : Side} {old : List Old} (h : Self T next d old) (ho : ∀ e ∈ old, e.mine ≤ next) (hs : d'.said = [])
    (hc : (d'.c.mine = d.c.mine ∧ d.c.yours < d'.c.yours) ∨ next < d'.c.mine) : Grows d old d' (old ++ [⟨d.c.mine, d.c.yours, d.said⟩]) := fun A B => by
  unfold SAID
  by_cases h1 : d.c.mine = A ∧ d.c.yours = B
  · rw [if_pos h1, if_neg (by rintro ⟨h2, h3⟩; have := h.m2; omega)]
    obtain ⟨rfl, rfl⟩ := h1
    rw [oldSaid_append, oldSaid_none (fun e he hc => by have := h.uniq e he hc.1; omega)]
    simp [Old.is]
  · rw [if_neg h1]
    by_cases h2 : d'.c.mine = A ∧ d'.c.yours = B
    · rw [if_pos h2, hs]
      have : oldSaid old A B = [] := by
        unfold oldSaid
        rw [oldSaid_none (fun e he hk => ?_)]
        · rfl
        · obtain ⟨rfl, rfl⟩ := h2
          rcases hc with ⟨hc1, hc2⟩ | hc
          · have := h.uniq e he (by rw [hk.1]; exact hc1)
            omega
          · have := ho e he
            omega
      rw [this]
      exact List.prefix_refl _
    · rw [if_neg h2]
      exact oldSaid_grow _ _ _ _
/-- a text said more -/
theorem Grows.say (d : Side) (old : List Old) (c : Ch) (ts : List ByteArray) (hm : c.mine = d.c.mine) (hy : c.yours = d.c.yours) (way : List Post) (heard : List ByteArray) : Grows d old ⟨c, d.said ++ ts, heard, way⟩ old := fun A B => by
  unfold SAID
  simp only [hm, hy]
  split
  · exact List.prefix_append _ _
  · exact List.prefix_refl _
/-- what a post that is none too old does -/
theorem hear_facts (c : Ch) (p : Post) (hk : okPost p = true) (hle : c.yours ≤ p.mine) : (hear c p).2.1 = 0 ∧ (hear c p).1.anew = decide (c.yours < p.mine) ∧ (hear c p).2.2.mine = c.mine ∧ (hear c p).2.2.yours = p.mine ∧
    (∃ n : Nat, n ≤ (ch1 c p).wait.length ∧ (hear c p).2.2.wait = (ch1 c p).wait.drop n ∧ (hear c p).2.2.first = (ch1 c p).first + n) ∧
    ((p.yours = c.mine ∧ 0 < p.seq ∧ p.seq = (ch1 c p).last + 1 ∧ (hear c p).1.is = true ∧ (hear c p).1.text = p.text ∧ (hear c p).2.2.last = (ch1 c p).last + 1) ∨ ((hear c p).1.is = false ∧ (hear c p).2.2.last = (ch1 c p).last)) := by
  have hm : (ch1 c p).mine = c.mine := by unfold ch1; split <;> rfl
  have hy : (ch1 c p).yours = p.mine := by
    unfold ch1
    split
    · rfl
    · omega
  have e2 : (ch2 c p).mine = (ch1 c p).mine ∧ (ch2 c p).yours = (ch1 c p).yours ∧ (ch2 c p).wait = (ch1 c p).wait ∧ (ch2 c p).first = (ch1 c p).first ∧ (ch2 c p).last = (ch1 c p).last := ⟨rfl, rfl, rfl, rfl, rfl⟩
  have e3 : (ch3 c p).mine = (ch1 c p).mine ∧ (ch3 c p).yours = (ch1 c p).yours ∧ (ch3 c p).wait = (ch1 c p).wait ∧ (ch3 c p).first = (ch1 c p).first ∧ (ch3 c p).last = (ch1 c p).last := ⟨rfl, rfl, rfl, rfl, rfl⟩
  have e4 : (ch4 c p).mine = (ch1 c p).mine ∧ (ch4 c p).yours = (ch1 c p).yours ∧ (ch4 c p).last = (ch1 c p).last ∧ ∃ n : Nat, n ≤ (ch1 c p).wait.length ∧ (ch4 c p).wait = (ch1 c p).wait.drop n ∧ (ch4 c p).first = (ch1 c p).first + n := by
    obtain ⟨a1, a2, a3, a4, a5⟩ := e3
    unfold ch4
    have hN : hearN (ch3 c p) p ≤ (ch3 c p).wait.length := by unfold hearN; omega
    split
    · exact ⟨a1, a2, a5, (hearN (ch3 c p) p).toNat, by rw [a3] at hN; omega, by simp only; rw [a3], by simp only; rw [a4]; omega⟩
    · exact ⟨a1, a2, a5, 0, Nat.zero_le _, by rw [a3, List.drop_zero], by rw [a4]; omega⟩
  obtain ⟨b1, b2, b3, n, b4, b5, b6⟩ := e4
  obtain ⟨a1, a2, a3, a4, a5⟩ := e2
  unfold hear
  rw [if_neg (by rw [hk]; simp), if_neg (by omega)]
  by_cases h1 : p.yours ≠ c.mine
  · rw [if_pos h1]
    exact ⟨rfl, rfl, by simp only; rw [a1, hm], by simp only; rw [a2, hy], ⟨0, Nat.zero_le _, by simp only; rw [a3, List.drop_zero], by simp only; rw [a4]; omega⟩, .inr ⟨rfl, by simp only; rw [a5]⟩⟩
  · rw [if_neg h1]
    have h1' : p.yours = c.mine := Decidable.not_not.1 h1
    by_cases h2 : 0 < p.seq ∧ p.seq = (ch4 c p).last + 1
    · rw [if_pos h2]
      exact ⟨rfl, rfl, by simp only; rw [b1, hm], by simp only; rw [b2, hy], ⟨n, b4, by simp only; rw [b5], by simp only; rw [b6]⟩, .inl ⟨h1', h2.1, by rw [← b3]; exact h2.2, rfl, rfl, by simp only; rw [b3]⟩⟩
    · rw [if_neg h2]
      exact ⟨rfl, rfl, by simp only; rw [b1, hm], by simp only; rw [b2, hy], ⟨n, b4, by simp only; rw [b5], by simp only; rw [b6]⟩, .inr ⟨rfl, by simp only; rw [b3]⟩⟩
def beginsB (a b : List ByteArray) : Bool := decide (a <+: b)
def comesOld (d : Side) (old : List Old) (x : Post) : List Old := if (hear d.c x).1.anew then old ++ [⟨d.c.mine, d.c.yours, d.said⟩] else old
def comesSide (d : Side) (x : Post) : Side :=
  ⟨(hear d.c x).2.2, if (hear d.c x).1.anew then [] else d.said, (if (hear d.c x).1.anew then [] else d.heard) ++ (if (hear d.c x).1.is then [(hear d.c x).1.text] else []), d.way⟩
def comesOk (d o : Side) (old : List Old) : Bool :=
  if o.c.mine = d.c.yours ∧ o.c.yours = d.c.mine then beginsB d.heard o.said
  else match old.find? (Old.is d.c.yours d.c.mine) with
    | some e => beginsB d.heard e.said
    | none => decide (d.heard.length = 0)
theorem comesOk_true {d o : Side} {old : List Old} (h : d.heard <+: SAID o old d.c.yours d.c.mine) : comesOk d o old = true := by
  unfold comesOk beginsB
  unfold SAID oldSaid at h
  split
  · rename_i h1
    rw [if_pos h1] at h
    exact decide_eq_true h
  · rename_i h1
    rw [if_neg h1] at h
    cases h2 : old.find? (Old.is d.c.yours d.c.mine) with
    | some e =>
      rw [h2] at h
      exact decide_eq_true h
    | none =>
      rw [h2] at h
      have : d.heard = [] := List.prefix_nil.1 h
      simp [this]
theorem get_prefix {α : Type} {l m : List α} (h : l <+: m) {x : α} (hx : m[l.length]? = some x) : l ++ [x] <+: m := by
  obtain ⟨t, rfl⟩ := h
  rw [List.getElem?_append_right (Nat.le_refl _), Nat.sub_self] at hx
  cases t with
  | nil => simp at hx
  | cons a r => simp at hx; subst hx; exact ⟨r, by simp⟩
theorem Self.mono {T T' : Nat} {next : Int} {d : Side} {old : List Old} (h : Self T next d old) (hT : T ≤ T') : Self T' next d old :=
  ⟨h.m1, h.m2, h.y0, h.f1, h.wait, Nat.le_trans h.len hT, h.small, by have := h.lastT; omega, h.uniq⟩
/-- a post comes that is too old -/
theorem hear_old (c : Ch) (p : Post) (hk : okPost p = true) (hlt : p.mine < c.yours) : hear c p = (hd0, 9, c) := by
  unfold hear
  rw [if_neg (by rw [hk]; simp), if_pos hlt]
theorem inv_comes {T : Nat} {next : Int} {d o : Side} {old : List Old} (h : Inv T next d o old) (x : Post) (hx : Good o old x) (hle : d.c.yours ≤ x.mine) :
    Inv (T + 1) next (comesSide d x) o (comesOld d old x) ∧ comesOk (comesSide d x) o (comesOld d old x) = true := by
  obtain ⟨hnT, hd1, ho1, hd2, ho2, hne, holds⟩ := h
  obtain ⟨e0, ea, em, ey, ⟨n, en1, en2, en3⟩, eis⟩ := hear_facts d.c x hx.ok hle
  obtain ⟨bx1, bx2, bx3, bx4⟩ := okPost_bounds hx.ok
  unfold comesSide comesOld
  generalize hear d.c x = r at *
  obtain ⟨⟨rt, ris, ranew⟩, rerr, rc⟩ := r
  simp only at e0 ea em ey en1 en2 en3 eis ⊢
  subst e0 ea
  by_cases han : d.c.yours < x.mine
  · -- the other end is a new one
    have hc1 : ch1 d.c x = ⟨d.c.mine, x.mine, 1, [], 0, false, false⟩ := if_pos han
    rw [hc1] at en1 en2 en3 eis
    simp only [List.length_nil] at en1 en2 en3 eis
    obtain rfl : n = 0 := by omega
    rw [decide_eq_true han]
    simp only [if_true, List.nil_append]
    have hgd : Grows d old ⟨rc, [], if ris then [rt] else [], d.way⟩ (old ++ [⟨d.c.mine, d.c.yours, d.said⟩]) :=
      Grows.over hd1 holds rfl (.inl ⟨em, by rw [ey]; exact han⟩)
    have hgo : Grows o old o (old ++ [⟨d.c.mine, d.c.yours, d.said⟩]) := Grows.old o old _
    have hpre : (if ris then [rt] else []) <+: SAID o (old ++ [⟨d.c.mine, d.c.yours, d.said⟩]) x.mine rc.mine := by
      rcases eis with ⟨hy, hs, hl, h1, h2, h3⟩ | ⟨h1, h2⟩
      · obtain ⟨i, hi1, hi2⟩ := hx.text hs
        obtain rfl : i = 0 := by omega
        rw [h1, if_pos rfl, em, h2]
        have h5 := prefix_get (hgo x.mine x.yours) hi2
        rw [hy] at h5
        exact get_prefix List.nil_prefix h5
      · rw [h1]; exact List.nil_prefix
    refine ⟨⟨by omega, ⟨by rw [em]; exact hd1.m1, by rw [em]; exact hd1.m2, by rw [ey]; omega, by rw [en3]; omega, ⟨[], by simp [en2], by rw [en3]; simp⟩, by simp, (fun t ht => by cases ht), ?_, fun e he hm => ?_⟩,
      ⟨ho1.m1, ho1.m2, ho1.y0, ho1.f1, ho1.wait, Nat.le_succ_of_le ho1.len, ho1.small, by have := ho1.lastT; omega, fun e he hm => ?_⟩, ⟨?_, by rw [ey]; exact hx.le, by simp only; rw [ey]; exact hpre, fun y hy => (hd2.way y hy).grow hgo (Int.le_refl _)⟩,
      ho2.grow hgd (by rw [em]; exact Int.le_refl _), by rw [em]; exact hne, fun e he => ?_⟩, comesOk_true (by simp only; rw [ey]; exact hpre)⟩
    · rcases eis with ⟨_, _, _, _, _, h3⟩ | ⟨_, h3⟩ <;> simp only <;> omega
    · simp only at hm ⊢
      rw [em] at hm
      rw [ey]
      rcases List.mem_append.1 he with he | he
      · have := hd1.uniq e he hm; omega
      · obtain rfl := List.mem_singleton.1 he
        exact han
    · rcases List.mem_append.1 he with he | he
      · exact ho1.uniq e he hm
      · obtain rfl := List.mem_singleton.1 he
        exact absurd hm hne
    · simp only
      rcases eis with ⟨_, _, _, h1, _, h3⟩ | ⟨h1, h3⟩
      · rw [h1, h3]; simp
      · rw [h1, h3]; simp
    · rcases List.mem_append.1 he with he | he
      · exact holds e he
      · obtain rfl := List.mem_singleton.1 he
        exact hd1.m2
  · have hye : d.c.yours = x.mine := by omega
    have hc1 : ch1 d.c x = d.c := if_neg han
    rw [hc1] at en1 en2 en3 eis
    rw [decide_eq_false han]
    simp only [Bool.false_eq_true, if_false]
    have hsame : Grows d old ⟨rc, d.said, d.heard ++ (if ris then [rt] else []), d.way⟩ old := fun A B => by
      unfold SAID
      simp only [em, ey, ← hye]
      exact List.prefix_refl _
    have hpre : d.heard ++ (if ris then [rt] else []) <+: SAID o old x.mine rc.mine := by
      rw [em]
      have h0 := hd2.pre
      rw [hye] at h0
      rcases eis with ⟨hy, hs, hl, h1, h2, h3⟩ | ⟨h1, h2⟩
      · obtain ⟨i, hi1, hi2⟩ := hx.text hs
        have hlen := hd2.last
        obtain rfl : i = d.heard.length := by omega
        rw [h1, if_pos rfl, h2]
        rw [hy] at hi2
        exact get_prefix h0 hi2
      · rw [h1]
        simpa using h0
    obtain ⟨a, ha1, ha2⟩ := hd1.wait
    refine ⟨⟨by omega, ⟨by rw [em]; exact hd1.m1, by rw [em]; exact hd1.m2, by rw [ey]; omega, by rw [en3]; have := hd1.f1; omega, ⟨a ++ d.c.wait.take n, ?_, ?_⟩, Nat.le_succ_of_le hd1.len, hd1.small, ?_, fun e he hm => ?_⟩,
      ho1.mono (Nat.le_succ _), ⟨?_, by rw [ey]; exact hx.le, by simp only; rw [ey]; exact hpre, hd2.way⟩, ho2.grow hsame (by rw [em]; exact Int.le_refl _), by rw [em]; exact hne, holds⟩, comesOk_true (by simp only; rw [ey]; exact hpre)⟩
    · simp only
      rw [en2, ha1, List.append_assoc, List.take_append_drop]
    · simp only
      rw [en3, List.length_append, List.length_take]
      omega
    · have := hd1.lastT
      rcases eis with ⟨_, _, _, _, _, h3⟩ | ⟨_, h3⟩ <;> simp only <;> omega
    · simp only at hm ⊢
      rw [em] at hm
      rw [ey, ← hye]
      exact hd1.uniq e he hm
    · have := hd2.last
      simp only
      rcases eis with ⟨_, _, _, h1, _, h3⟩ | ⟨h1, h3⟩
      · rw [h1, h3]; simp; omega
      · rw [h1, h3]; simp; omega
theorem Inv.mono {T T' : Nat} {next : Int} {d o : Side} {old : List Old} (h : Inv T next d o old) (hT : T ≤ T') : Inv T' next d o old :=
  ⟨by have := h.nT; omega, h.d1.mono hT, h.o1.mono hT, h.d2, h.o2, h.ne, h.olds⟩
def newSide (m : Int) (way : List Post) : Side := ⟨⟨m, 0, 1, [], 0, false, false⟩, [], [], way⟩
theorem inv_begin {T : Nat} {next : Int} {d o : Side} {old : List Old} (h : Inv T next d o old) : Inv (T + 1) (next + 1) (newSide (next + 1) d.way) o (old ++ [⟨d.c.mine, d.c.yours, d.said⟩]) := by
  obtain ⟨hnT, hd1, ho1, hd2, ho2, hne, holds⟩ := h
  have hgd : Grows d old (newSide (next + 1) d.way) (old ++ [⟨d.c.mine, d.c.yours, d.said⟩]) := Grows.over hd1 holds rfl (.inr (by simp only [newSide]; omega))
  have hgo : Grows o old o (old ++ [⟨d.c.mine, d.c.yours, d.said⟩]) := Grows.old o old _
  have h1 := hd1.m1
  have h2 := hd1.m2
  have h3 := ho1.m2
  have h4 := ho1.m1
  refine ⟨by omega, ⟨by simp only [newSide]; omega, by simp [newSide], by simp [newSide], by simp [newSide], ⟨[], by simp [newSide], by simp [newSide]⟩, by simp [newSide], (fun t ht => by cases ht), by simp only [newSide]; omega, fun e he hm => ?_⟩,
    ⟨ho1.m1, by omega, ho1.y0, ho1.f1, ho1.wait, Nat.le_succ_of_le ho1.len, ho1.small, by have := ho1.lastT; omega, fun e he hm => ?_⟩, ⟨by simp [newSide], by simp only [newSide]; omega, List.nil_prefix, fun y hy => (hd2.way y hy).grow hgo (Int.le_refl _)⟩,
    ho2.grow hgd (by simp only [newSide]; omega), by simp only [newSide]; omega, fun e he => ?_⟩
  · simp only [newSide] at hm
    rcases List.mem_append.1 he with he | he
    · have := holds e he; omega
    · obtain rfl := List.mem_singleton.1 he
      simp only at hm; omega
  · rcases List.mem_append.1 he with he | he
    · exact ho1.uniq e he hm
    · obtain rfl := List.mem_singleton.1 he
      exact absurd hm hne
  · rcases List.mem_append.1 he with he | he
    · have := holds e he; omega
    · obtain rfl := List.mem_singleton.1 he
      simp only; omega
def saySide (d : Side) (t : ByteArray) : Side := ⟨sayC d.c [t], if sayE d.c [t] = 0 then d.said ++ [t] else d.said, d.heard, d.way⟩
theorem inv_say {T : Nat} {next : Int} {d o : Side} {old : List Old} (h : Inv T next d o old) (t : ByteArray) : Inv (T + 1) next (saySide d t) o old := by
  unfold saySide
  by_cases hE : sayE d.c [t] = 0
  · have ht : t.size ≤ 65472 := by
      unfold sayE at hE
      by_cases hl : 65472 < t.size
      · simp [longB, hl] at hE
      · omega
    have hC : sayC d.c [t] = { d.c with wait := d.c.wait ++ [t] } := by unfold sayC; rw [if_pos hE]
    rw [if_pos hE, hC]
    obtain ⟨hnT, hd1, ho1, hd2, ho2, hne, holds⟩ := h
    have hg : Grows d old ⟨{ d.c with wait := d.c.wait ++ [t] }, d.said ++ [t], d.heard, d.way⟩ old := Grows.say d old _ [t] rfl rfl d.way d.heard
    obtain ⟨a, ha1, ha2⟩ := hd1.wait
    refine ⟨by omega, ⟨hd1.m1, hd1.m2, hd1.y0, hd1.f1, ⟨a, by simp only; rw [ha1, List.append_assoc], ha2⟩, by simp only [List.length_append, List.length_cons, List.length_nil]; have := hd1.len; omega, fun s hs => ?_, by have := hd1.lastT; simp only; omega, hd1.uniq⟩,
      ho1.mono (Nat.le_succ _), ⟨hd2.last, hd2.yo, hd2.pre, hd2.way⟩, ho2.grow hg (Int.le_refl _), hne, holds⟩
    rcases List.mem_append.1 hs with hs | hs
    · exact hd1.small s hs
    · obtain rfl := List.mem_singleton.1 hs
      exact ht
  · have hC : sayC d.c [t] = d.c := by unfold sayC; rw [if_neg hE]
    rw [if_neg hE, hC]
    exact h.mono (Nat.le_succ _)
theorem inv_way {T : Nat} {next : Int} {d o : Side} {old : List Old} (h : Inv T next d o old) (way : List Post) (hw : ∀ x ∈ way, x ∈ d.way) : Inv T next ⟨d.c, d.said, d.heard, way⟩ o old := by
  obtain ⟨hnT, hd1, ho1, hd2, ho2, hne, holds⟩ := h
  have hg : Grows d old ⟨d.c, d.said, d.heard, way⟩ old := fun A B => List.prefix_refl _
  exact ⟨hnT, ⟨hd1.m1, hd1.m2, hd1.y0, hd1.f1, hd1.wait, hd1.len, hd1.small, hd1.lastT, hd1.uniq⟩, ho1, ⟨hd2.last, hd2.yo, hd2.pre, fun x hx => hd2.way x (hw x hx)⟩, ho2.grow hg (Int.le_refl _), hne, holds⟩
theorem textPs_mem {c : Ch} {k : Nat} {x : Post} (h : x ∈ textPs c k) : ∃ i, i < k ∧ x = textP c i := by
  unfold textPs at h
  obtain ⟨i, hi, rfl⟩ := List.mem_map.1 h
  exact ⟨i, List.mem_range.1 hi, rfl⟩
theorem posts_good {T : Nat} {next : Int} {d o : Side} {old : List Old} (h : Inv T next d o old) (hT : T ≤ 1000000) : ∀ x ∈ postsL d.c, Good d old x := by
  obtain ⟨hnT, hd1, ho1, hd2, ho2, hne, holds⟩ := h
  obtain ⟨h1, h2, h3, h4, ⟨a, ha1, ha2⟩, h6, h7, h8, h9⟩ := hd1
  have hyo := hd2.yo
  have hom := ho1.m2
  have hlast := hd2.last
  have hal : a.length + d.c.wait.length ≤ T := by rw [← List.length_append, ← ha1]; exact h6
  intro x hx
  have bare : ∀ y : Int, 0 ≤ y → y ≤ next → Good d old ⟨d.c.mine, y, d.c.last, 0, ⟨#[]⟩⟩ := fun y hy0 hy1 => ⟨by
    unfold okPost inT
    have : (⟨#[]⟩ : ByteArray).size = 0 := rfl
    simp [this]
    omega, Int.le_refl _, fun hs => by simp at hs⟩
  unfold postsL at hx
  split at hx
  · rcases List.mem_append.1 hx with hx | hx
    · split at hx
      · obtain rfl := List.mem_singleton.1 hx
        exact bare _ h3 (by omega)
      · cases hx
    · split at hx
      · cases hx
      · obtain rfl := List.mem_singleton.1 hx
        exact bare 0 (Int.le_refl _) (by omega)
  · obtain ⟨i, hi, rfl⟩ := textPs_mem hx
    have hiw : i < d.c.wait.length := by unfold postK at hi; split at hi <;> omega
    have hg : d.c.wait[i]? = some (d.c.wait.getD i ⟨#[]⟩) := by
      rw [List.getD_eq_getElem?_getD, List.getElem?_eq_getElem hiw]
      rfl
    have hsm : (d.c.wait.getD i ⟨#[]⟩).size ≤ 65472 := h7 _ (by rw [ha1]; exact List.mem_append.2 (.inr (List.mem_of_getElem? hg)))
    unfold textP
    generalize d.c.wait.getD i ⟨#[]⟩ = tx at *
    refine ⟨?_, Int.le_refl _, fun hs => ⟨a.length + i, by simp only; omega, ?_⟩⟩
    · unfold okPost inT
      have h0 : ¬ d.c.first + i = 0 := by omega
      simp [h0]
      omega
    · simp only
      unfold SAID
      rw [if_pos ⟨rfl, rfl⟩, ha1, List.getElem?_append_right (by omega), Nat.add_sub_cancel_left, hg]
theorem inv_posts {T : Nat} {next : Int} {d o : Side} {old : List Old} (h : Inv T next d o old) (hT : T ≤ 1000000) : Inv (T + 1) next ⟨{ d.c with owes := false }, d.said, d.heard, d.way⟩ ⟨o.c, o.said, o.heard, o.way ++ postsL d.c⟩ old := by
  have hp := posts_good h hT
  obtain ⟨hnT, hd1, ho1, hd2, ho2, hne, holds⟩ := h
  have hg : Grows d old ⟨{ d.c with owes := false }, d.said, d.heard, d.way⟩ old := fun A B => List.prefix_refl _
  have hgo : Grows o old ⟨o.c, o.said, o.heard, o.way ++ postsL d.c⟩ old := fun A B => List.prefix_refl _
  have h1 : Self T next ⟨{ d.c with owes := false }, d.said, d.heard, d.way⟩ old := ⟨hd1.m1, hd1.m2, hd1.y0, hd1.f1, hd1.wait, hd1.len, hd1.small, hd1.lastT, hd1.uniq⟩
  have h2 : Self T next ⟨o.c, o.said, o.heard, o.way ++ postsL d.c⟩ old := ⟨ho1.m1, ho1.m2, ho1.y0, ho1.f1, ho1.wait, ho1.len, ho1.small, ho1.lastT, ho1.uniq⟩
  have h3 := ho2.grow hg (Int.le_refl _)
  have h4 := hd2.grow hgo (Int.le_refl _)
  exact ⟨by omega, h1.mono (Nat.le_succ _), h2.mono (Nat.le_succ _), ⟨h4.last, h4.yo, h4.pre, h4.way⟩, ⟨h3.last, h3.yo, h3.pre, fun x hx => (List.mem_append.1 hx).elim (h3.way x) (fun hx => (hp x hx).grow hg (Int.le_refl _))⟩, hne, holds⟩
theorem inv_start : Inv 0 2 (newSide 1 []) (newSide 2 []) [] := by
  have s : ∀ m : Int, 1 ≤ m → m ≤ 2 → Self 0 2 (newSide m []) [] := fun m h1 h2 => ⟨h1, h2, by simp [newSide], by simp [newSide], ⟨[], rfl, by simp [newSide]⟩, by simp [newSide], (fun t ht => by cases ht), by simp [newSide], (fun e he => by cases he)⟩
  exact ⟨by decide, s 1 (by decide) (by decide), s 2 (by decide) (by decide), ⟨rfl, by decide, List.nil_prefix, fun x hx => by cases hx⟩, ⟨rfl, by decide, List.nil_prefix, fun x hx => by cases hx⟩, by decide, fun e he => by cases he⟩
end Go.Proofs.Ythmfmpkkbgapoaa.Ses
-- OnceN
/- session: epochs and acknowledgements between two ends: plain laws. -/
set_option linter.unusedSimpArgs false
set_option linter.unusedVariables false
namespace Go.Proofs.Ythmfmpkkbgapoaa.Ses
open Go.RowKit
/-- what a post that is none too old does to an end, field by field -/
structure HearM (c : Ch) (p : Post) (r : Ch) : Prop where
  mine : r.mine = c.mine
  yours : r.yours = p.mine
  owes : r.owes = ((ch1 c p).owes || (decide (c.yours < p.mine) || (decide (0 < p.seq) || decide (p.yours ≠ c.mine))))
  met : r.met = ((ch1 c p).met || decide (p.yours = c.mine))
  n : ∃ n : Nat, n ≤ (ch1 c p).wait.length ∧ r.wait = (ch1 c p).wait.drop n ∧ r.first = (ch1 c p).first + n ∧ (p.yours ≠ c.mine → n = 0) ∧ (p.yours = c.mine → (n : Int) = max 0 (min (p.ack - (ch1 c p).first + 1) (ch1 c p).wait.length))
  last : (p.yours = c.mine ∧ 0 < p.seq ∧ p.seq = (ch1 c p).last + 1 ∧ r.last = (ch1 c p).last + 1) ∨ (¬ (p.yours = c.mine ∧ 0 < p.seq ∧ p.seq = (ch1 c p).last + 1) ∧ r.last = (ch1 c p).last)
theorem hear_more (c : Ch) (p : Post) (hk : okPost p = true) (hle : c.yours ≤ p.mine) : HearM c p (hear c p).2.2 := by
  have hm : (ch1 c p).mine = c.mine := by unfold ch1; split <;> rfl
  have hy : (ch1 c p).yours = p.mine := by
    unfold ch1
    split
    · rfl
    · omega
  have e3 : (ch3 c p).mine = (ch1 c p).mine ∧ (ch3 c p).yours = (ch1 c p).yours ∧ (ch3 c p).wait = (ch1 c p).wait ∧ (ch3 c p).first = (ch1 c p).first ∧ (ch3 c p).last = (ch1 c p).last ∧ (ch3 c p).met = true ∧ (ch3 c p).owes = (ch2 c p).owes := ⟨rfl, rfl, rfl, rfl, rfl, rfl, rfl⟩
  have e2 : (ch2 c p).mine = (ch1 c p).mine ∧ (ch2 c p).yours = (ch1 c p).yours ∧ (ch2 c p).wait = (ch1 c p).wait ∧ (ch2 c p).first = (ch1 c p).first ∧ (ch2 c p).last = (ch1 c p).last ∧ (ch2 c p).met = (ch1 c p).met ∧ (ch2 c p).owes = ((ch1 c p).owes || (decide (c.yours < p.mine) || (decide (0 < p.seq) || decide (p.yours ≠ c.mine)))) := ⟨rfl, rfl, rfl, rfl, rfl, rfl, rfl⟩
  obtain ⟨a1, a2, a3, a4, a5, a6, a7⟩ := e3
  obtain ⟨b1, b2, b3, b4, b5, b6, b7⟩ := e2
  have e4 : (ch4 c p).mine = (ch1 c p).mine ∧ (ch4 c p).yours = (ch1 c p).yours ∧ (ch4 c p).last = (ch1 c p).last ∧ (ch4 c p).met = true ∧ (ch4 c p).owes = (ch2 c p).owes ∧ ∃ n : Nat, n ≤ (ch1 c p).wait.length ∧ (ch4 c p).wait = (ch1 c p).wait.drop n ∧ (ch4 c p).first = (ch1 c p).first + n ∧ (n : Int) = max 0 (min (p.ack - (ch1 c p).first + 1) (ch1 c p).wait.length) := by
    have hN : hearN (ch3 c p) p = min (p.ack - (ch1 c p).first + 1) ((ch1 c p).wait.length : Int) := by unfold hearN; rw [a4, a3]
    unfold ch4
    split
    · refine ⟨a1, a2, a5, a6, a7, (hearN (ch3 c p) p).toNat, by omega, by simp only; rw [a3], by simp only; rw [a4]; omega, ?_⟩
      rw [hN] at *
      omega
    · refine ⟨a1, a2, a5, a6, a7, 0, Nat.zero_le _, by rw [a3, List.drop_zero], by rw [a4]; simp, ?_⟩
      rw [hN] at *
      omega
  obtain ⟨d1, d2, d3, d4, d5, n, d6, d7, d8, d9⟩ := e4
  unfold hear
  rw [if_neg (by rw [hk]; simp), if_neg (by omega)]
  by_cases h1 : p.yours ≠ c.mine
  · rw [if_pos h1]
    exact ⟨by simp only; rw [b1, hm], by simp only; rw [b2, hy], b7, by simp only; rw [b6, decide_eq_false h1, Bool.or_false], ⟨0, Nat.zero_le _, by simp only; rw [b3, List.drop_zero], by simp only; rw [b4]; simp, fun _ => rfl, fun h => absurd h h1⟩, .inr ⟨fun h => h1 h.1, b5⟩⟩
  · rw [if_neg h1]
    have h1' : p.yours = c.mine := Decidable.not_not.1 h1
    by_cases h2 : 0 < p.seq ∧ p.seq = (ch4 c p).last + 1
    · rw [if_pos h2]
      exact ⟨by simp only; rw [d1, hm], by simp only; rw [d2, hy], by simp only; rw [d5, b7], by simp only; rw [d4, decide_eq_true h1', Bool.or_true], ⟨n, d6, d7, d8, fun h => absurd h1' h, fun _ => d9⟩, .inl ⟨h1', h2.1, by rw [← d3]; exact h2.2, by simp only; rw [d3]⟩⟩
    · rw [if_neg h2]
      exact ⟨by simp only; rw [d1, hm], by simp only; rw [d2, hy], by simp only; rw [d5, b7], by simp only; rw [d4, decide_eq_true h1', Bool.or_true], ⟨n, d6, d7, d8, fun h => absurd h1' h, fun _ => d9⟩, .inr ⟨fun h => h2 ⟨h.2.1, by rw [d3]; exact h.2.2⟩, by simp only; rw [d3]⟩⟩
/-- a post under way to d, as to the other end's epochs and acknowledgements -/
structure NetP (d o : Side) (x : Post) : Prop where
  epo : (x.mine = o.c.mine ∧ x.yours ≤ o.c.yours) ∨ (x.mine < o.c.mine ∧ x.yours < o.c.mine)
  ack : x.mine = o.c.mine → x.yours = d.c.mine → o.c.yours = d.c.mine → x.ack ≤ o.c.last
/-- an end and the other one, as to epochs and acknowledgements -/
structure Net (d o : Side) : Prop where
  way : ∀ x ∈ d.way, NetP d o x
  met : d.c.met = true → (d.c.yours = o.c.mine ∧ d.c.mine ≤ o.c.yours) ∨ (d.c.yours < o.c.mine ∧ d.c.mine < o.c.mine)
  fst : d.c.met = false → d.c.first = 1
  sound : d.c.yours = o.c.mine → o.c.yours = d.c.mine → d.c.first ≤ o.c.last + 1
structure Net2 (d o : Side) : Prop where
  a : Net d o
  b : Net o d
theorem Net2.swap {d o : Side} (h : Net2 d o) : Net2 o d := ⟨h.b, h.a⟩
theorem Net2.start : Net2 (newSide 1 []) (newSide 2 []) := by
  have h : ∀ m n : Int, Net (newSide m []) (newSide n []) := fun m n => ⟨(fun x hx => by cases hx), (fun h => by simp [newSide] at h), fun _ => rfl, fun _ _ => by simp [newSide]⟩
  exact ⟨h _ _, h _ _⟩
/-- the channel's fields that count here -/
structure Alike (c c' : Ch) : Prop where
  mine : c'.mine = c.mine
  yours : c'.yours = c.yours
  first : c'.first = c.first
  last : c'.last = c.last
  met : c'.met = c.met
theorem Net2.alike {d o : Side} (h : Net2 d o) {c : Ch} (hc : Alike d.c c) (S H : List ByteArray) : Net2 ⟨c, S, H, d.way⟩ o := by
  obtain ⟨h1, h2, h3, h4, h5⟩ := hc
  obtain ⟨⟨a1, a2, a3, a4⟩, ⟨b1, b2, b3, b4⟩⟩ := h
  refine ⟨⟨fun x hx => ⟨(a1 x hx).epo, ?_⟩, ?_, ?_, ?_⟩, ⟨fun x hx => ⟨?_, ?_⟩, ?_, b3, ?_⟩⟩ <;> simp only [h1, h2, h3, h4, h5]
  · exact (a1 x hx).ack
  · exact a2
  · exact a3
  · exact a4
  · exact (b1 x hx).epo
  · exact (b1 x hx).ack
  · exact b2
  · exact b4
theorem Net2.ways {d o : Side} (h : Net2 d o) (way : List Post) (hw : ∀ x ∈ way, NetP d o x) : Net2 ⟨d.c, d.said, d.heard, way⟩ o := by
  obtain ⟨⟨a1, a2, a3, a4⟩, ⟨b1, b2, b3, b4⟩⟩ := h
  exact ⟨⟨fun x hx => ⟨(hw x hx).epo, (hw x hx).ack⟩, a2, a3, a4⟩, ⟨fun x hx => ⟨(b1 x hx).epo, (b1 x hx).ack⟩, b2, b3, b4⟩⟩
theorem Net2.say {d o : Side} (h : Net2 d o) (t : ByteArray) : Net2 (saySide d t) o := by
  unfold saySide
  refine h.alike ?_ _ _
  unfold sayC
  split <;> exact ⟨rfl, rfl, rfl, rfl, rfl⟩
theorem mem_posts {c : Ch} (hy0 : 0 ≤ c.yours) {x : Post} (hx : x ∈ postsL c) : x.mine = c.mine ∧ x.ack = c.last ∧ (x.yours = c.yours ∨ x.yours = 0) ∧ x.yours ≤ c.yours := by
  unfold postsL at hx
  split at hx
  · rcases List.mem_append.1 hx with hx | hx
    · split at hx
      · obtain rfl := List.mem_singleton.1 hx
        exact ⟨rfl, rfl, .inl rfl, Int.le_refl _⟩
      · cases hx
    · split at hx
      · cases hx
      · obtain rfl := List.mem_singleton.1 hx
        exact ⟨rfl, rfl, .inr rfl, hy0⟩
  · obtain ⟨i, hi, rfl⟩ := textPs_mem hx
    exact ⟨rfl, rfl, .inl rfl, Int.le_refl _⟩
theorem Net2.posts {T : Nat} {next : Int} {d o : Side} {old : List Old} (hI : Inv T next d o old) (h : Net2 d o) : Net2 ⟨{ d.c with owes := false }, d.said, d.heard, d.way⟩ ⟨o.c, o.said, o.heard, o.way ++ postsL d.c⟩ := by
  have h1 := h.alike (c := { d.c with owes := false }) ⟨rfl, rfl, rfl, rfl, rfl⟩ d.said d.heard
  refine (h1.swap.ways (o.way ++ postsL d.c) fun x hx => ?_).swap
  rcases List.mem_append.1 hx with hx | hx
  · exact ⟨(h.b.way x hx).epo, (h.b.way x hx).ack⟩
  · obtain ⟨h2, h3, h4, h5⟩ := mem_posts hI.d1.y0 hx
    exact ⟨.inl ⟨h2, h5⟩, fun _ _ _ => by rw [h3]; exact Int.le_refl _⟩
theorem Net2.begin {T : Nat} {next : Int} {d o : Side} {old : List Old} (hI : Inv T next d o old) (h : Net2 d o) : Net2 (newSide (next + 1) d.way) o := by
  have h1 := hI.d1.m1
  have h2 := hI.d1.m2
  have h3 := hI.o1.m2
  have h4 := hI.o1.m1
  have h5 := hI.d2.yo
  have h6 := hI.o2.yo
  have h7 := hI.o2.last
  have h8 := hI.d2.last
  obtain ⟨⟨a1, a2, a3, a4⟩, ⟨b1, b2, b3, b4⟩⟩ := h
  refine ⟨⟨fun x hx => ⟨(a1 x hx).epo, fun _ _ h => ?_⟩, fun h => by simp [newSide] at h, fun _ => rfl, fun _ _ => ?_⟩, ⟨fun x hx => ⟨.inr ?_, fun h _ _ => ?_⟩, fun h => .inr ?_, b3, fun h _ => ?_⟩⟩
  · simp only [newSide] at h; omega
  · simp only [newSide]; omega
  · have := (b1 x hx).epo
    simp only [newSide]; omega
  · have := (b1 x hx).epo
    simp only [newSide] at h; omega
  · have := b2 h
    simp only [newSide]; omega
  · simp only [newSide] at h; omega
theorem Net2.comes {T : Nat} {next : Int} {d o : Side} {old : List Old} (hI : Inv T next d o old) (h : Net2 d o) (x : Post) (hk : okPost x = true) (hx : NetP d o x) (hle : d.c.yours ≤ x.mine) : Net2 (comesSide d x) o := by
  have h1 := hI.d1.m1
  have h5 := hI.d2.yo
  have h6 := hI.o2.yo
  have h7 := hI.o2.last
  have h8 := hI.d2.last
  obtain ⟨m1, m2, m3, m4, ⟨n, n1, n2, n3, n4, n5⟩, m6⟩ := hear_more d.c x hk hle
  obtain ⟨⟨a1, a2, a3, a4⟩, ⟨b1, b2, b3, b4⟩⟩ := h
  obtain ⟨x1, x2⟩ := hx
  unfold comesSide
  generalize (hear d.c x).2.2 = r at *
  have hl0 : 0 ≤ (ch1 d.c x).last := by unfold ch1; split <;> (try simp only) <;> omega
  by_cases han : d.c.yours < x.mine
  · have hc1 : ch1 d.c x = ⟨d.c.mine, x.mine, 1, [], 0, false, false⟩ := if_pos han
    rw [hc1] at m4 n1 n2 n3 n5 m6
    simp only [List.length_nil, Bool.false_or] at m4 n1 n2 n3 n5 m6
    have hn0 : n = 0 := by omega
    subst hn0
    refine ⟨⟨fun y hy => ⟨(a1 y hy).epo, ?_⟩, fun hm => ?_, fun _ => by simp only; omega, fun _ _ => by simp only; omega⟩, ⟨fun y hy => ⟨?_, fun g1 g2 g3 => ?_⟩, fun hm => ?_, b3, fun g1 g2 => ?_⟩⟩
    · simp only [m1]; exact (a1 y hy).ack
    · simp only at hm ⊢
      rw [m4, decide_eq_true_eq] at hm
      omega
    · have := (b1 y hy).epo
      simp only; omega
    · have := (b1 y hy).epo
      simp only at g1 g2 g3; omega
    · have := b2 hm
      simp only; omega
    · simp only at g1 g2 ⊢
      have : o.c.met = false := by
        cases hom : o.c.met with
        | false => rfl
        | true => have := b2 hom; omega
      have := b3 this
      omega
  · have hc1 : ch1 d.c x = d.c := if_neg han
    have hye : d.c.yours = x.mine := by omega
    rw [hc1] at m4 n1 n2 n3 n5 m6
    have hlm : d.c.last ≤ r.last := by omega
    refine ⟨⟨fun y hy => ⟨(a1 y hy).epo, ?_⟩, fun hm => ?_, fun hm => ?_, fun g1 g2 => ?_⟩, ⟨fun y hy => ⟨?_, fun g1 g2 g3 => ?_⟩, fun hm => ?_, b3, fun g1 g2 => ?_⟩⟩
    · simp only [m1]; exact (a1 y hy).ack
    · simp only at hm ⊢
      rw [m4, Bool.or_eq_true, decide_eq_true_eq] at hm
      rcases hm with hm | hm
      · have := a2 hm; omega
      · omega
    · simp only at hm ⊢
      rw [m4, Bool.or_eq_false_iff, decide_eq_false_iff_not] at hm
      have := a3 hm.1
      have := n4 hm.2
      omega
    · simp only at g1 g2 ⊢
      rw [m2] at g1
      rw [m1] at g2
      have := a4 (by omega) g2
      by_cases hxy : x.yours = d.c.mine
      · have := x2 g1 hxy g2
        have := n5 hxy
        omega
      · have := n4 hxy
        omega
    · have := (b1 y hy).epo
      simp only; omega
    · simp only at g1 g2 g3 ⊢
      have := (b1 y hy).ack (by omega) g2 (by omega)
      omega
    · have := b2 hm
      simp only; omega
    · simp only at g1 g2 ⊢
      have := b4 (by omega) (by omega)
      omega
end Go.Proofs.Ythmfmpkkbgapoaa.Ses
-- OnceR
/- session: rounds in which all posts come: after at most 36 of them nothing is posted any more: plain laws. -/
set_option linter.unusedSimpArgs false
set_option linter.unusedVariables false
namespace Go.Proofs.Ythmfmpkkbgapoaa.Ses
open Go.RowKit
def hearL (c : Ch) (ps : List Post) : Ch := ps.foldl (fun c p => (hear c p).2.2) c
theorem hearL_cons (c : Ch) (p : Post) (ps : List Post) : hearL c (p :: ps) = hearL (hear c p).2.2 ps := rfl
theorem hearL_append (c : Ch) (ps qs : List Post) : hearL c (ps ++ qs) = hearL (hearL c ps) qs := by unfold hearL; rw [List.foldl_append]
def pst (c : Ch) : Ch := { c with owes := false }
/-- an end, ahead of what it posts -/
structure Ok1 (a b : Ch) : Prop where
  m1 : 1 ≤ a.mine
  y0 : 0 ≤ a.yours
  yb : a.yours ≤ b.mine
  f1 : 1 ≤ a.first
  l0 : 0 ≤ a.last
  w : a.wait.length ≤ 120
  met : a.met = true → (a.yours = b.mine ∧ a.mine ≤ b.yours) ∨ (a.yours < b.mine ∧ a.mine < b.mine)
  sound : a.yours = b.mine → b.yours = a.mine → a.first ≤ b.last + 1
  ok : ∀ x ∈ postsL a, okPost x = true
structure Ok2 (x y : Ch) : Prop where
  a : Ok1 x y
  b : Ok1 y x
  ne : x.mine ≠ y.mine
theorem Ok2.swap {a b : Ch} (h : Ok2 a b) : Ok2 b a := ⟨h.b, h.a, h.ne.symm⟩
theorem hear_late {c : Ch} {p : Post} (hk : okPost p = true) (h : p.mine < c.yours) : (hear c p).2.2 = c := by rw [hear_old c p hk h]
theorem hear_mine {c : Ch} {p : Post} (hk : okPost p = true) : (hear c p).2.2.mine = c.mine := by
  by_cases h : p.mine < c.yours
  · rw [hear_late hk h]
  · exact (hear_more c p hk (by omega)).mine
theorem hear_yours {c : Ch} {p : Post} (hk : okPost p = true) : c.yours ≤ (hear c p).2.2.yours ∧ p.mine ≤ (hear c p).2.2.yours := by
  by_cases h : p.mine < c.yours
  · rw [hear_late hk h]; omega
  · rw [(hear_more c p hk (by omega)).yours]; omega
theorem hearL_mine {ps : List Post} : ∀ {c : Ch}, (∀ x ∈ ps, okPost x = true) → (hearL c ps).mine = c.mine := by
  induction ps with
  | nil => intro c _; rfl
  | cons p r ih =>
    intro c h
    rw [hearL_cons, ih (fun x hx => h x (List.mem_cons_of_mem _ hx)), hear_mine (h p List.mem_cons_self)]
theorem hearL_yours {ps : List Post} : ∀ {c : Ch}, (∀ x ∈ ps, okPost x = true) → c.yours ≤ (hearL c ps).yours ∧ ∀ x ∈ ps, x.mine ≤ (hearL c ps).yours := by
  induction ps with
  | nil => intro c _; exact ⟨Int.le_refl _, fun x hx => by cases hx⟩
  | cons p r ih =>
    intro c h
    obtain ⟨h1, h2⟩ := ih (c := (hear c p).2.2) (fun x hx => h x (List.mem_cons_of_mem _ hx))
    obtain ⟨h3, h4⟩ := hear_yours (c := c) (h p List.mem_cons_self)
    rw [hearL_cons]
    refine ⟨by omega, fun x hx => ?_⟩
    rcases List.mem_cons.1 hx with rfl | hx
    · omega
    · exact h2 x hx
/-- posts of the session that an end knows -/
structure HearS (c : Ch) (ps : List Post) (r : Ch) : Prop where
  mine : r.mine = c.mine
  yours : r.yours = c.yours
  met : c.met = true → r.met = true
  owes : c.owes = true → r.owes = true
  owes1 : ∀ x ∈ ps, 0 < x.seq ∨ x.yours ≠ c.mine → r.owes = true
  owes0 : (∀ x ∈ ps, x.seq = 0 ∧ x.yours = c.mine) → c.owes = false → r.owes = false
  met1 : ∀ x ∈ ps, x.yours = c.mine → r.met = true
  first : c.first ≤ r.first
  sum : r.first + r.wait.length = c.first + c.wait.length
  last : c.last ≤ r.last
  ack : ∀ x ∈ ps, x.yours = c.mine → min (x.ack + 1) (c.first + c.wait.length) ≤ r.first
theorem hear_S {c : Ch} {p : Post} (hk : okPost p = true) (hm : p.mine = c.yours) : HearS c [p] (hear c p).2.2 := by
  obtain ⟨m1, m2, m3, m4, ⟨n, n1, n2, n3, n4, n5⟩, m6⟩ := hear_more c p hk (by omega)
  have hc1 : ch1 c p = c := if_neg (by omega)
  rw [hc1] at m3 m4 n1 n2 n3 n5 m6
  have hlt : decide (c.yours < p.mine) = false := decide_eq_false (by omega)
  rw [hlt, Bool.false_or] at m3
  generalize (hear c p).2.2 = r at *
  have hw : r.wait.length = c.wait.length - n := by rw [n2, List.length_drop]
  refine ⟨m1, by rw [m2, hm], fun h => by rw [m4, h, Bool.true_or], fun h => by rw [m3, h, Bool.true_or], fun x hx h => ?_, fun h0 h => ?_, fun x hx h => ?_, by omega, by omega, by omega, fun x hx h => ?_⟩
  · obtain rfl := List.mem_singleton.1 hx
    rw [m3]
    rcases h with h | h
    · rw [decide_eq_true h]; simp
    · rw [decide_eq_true h]; simp
  · obtain ⟨h1, h2⟩ := h0 p (List.mem_singleton.2 rfl)
    rw [m3, h, decide_eq_false (by omega), decide_eq_false (by simp [h2])]
    rfl
  · obtain rfl := List.mem_singleton.1 hx
    rw [m4, decide_eq_true h, Bool.or_true]
  · obtain rfl := List.mem_singleton.1 hx
    have := n5 h
    omega
theorem HearS.trans {c r s : Ch} {ps qs : List Post} (h : HearS c ps r) (g : HearS r qs s) : HearS c (ps ++ qs) s := by
  have e1 := h.mine
  refine ⟨g.mine.trans e1, g.yours.trans h.yours, fun x => g.met (h.met x), fun x => g.owes (h.owes x), fun x hx hh => ?_, fun h0 hc => ?_, fun x hx hh => ?_, Int.le_trans h.first g.first, g.sum.trans h.sum, Int.le_trans h.last g.last, fun x hx hh => ?_⟩
  · rcases List.mem_append.1 hx with hx | hx
    · exact g.owes (h.owes1 x hx hh)
    · exact g.owes1 x hx (by rw [e1]; exact hh)
  · exact g.owes0 (fun x hx => by rw [e1]; exact h0 x (List.mem_append.2 (.inr hx))) (h.owes0 (fun x hx => h0 x (List.mem_append.2 (.inl hx))) hc)
  · rcases List.mem_append.1 hx with hx | hx
    · exact g.met (h.met1 x hx hh)
    · exact g.met1 x hx (by rw [e1]; exact hh)
  · have h2 := g.first
    have h3 := h.sum
    rcases List.mem_append.1 hx with hx | hx
    · have := h.ack x hx hh; omega
    · have := g.ack x hx (by rw [e1]; exact hh); omega
theorem hearL_S {ps : List Post} : ∀ {c : Ch}, (∀ x ∈ ps, okPost x = true) → (∀ x ∈ ps, x.mine = c.yours) → HearS c ps (hearL c ps) := by
  induction ps with
  | nil => intro c _ _; exact ⟨rfl, rfl, id, id, (fun x hx => by cases hx), fun _ h => h, (fun x hx => by cases hx), Int.le_refl _, rfl, Int.le_refl _, fun x hx => by cases hx⟩
  | cons p r ih =>
    intro c h1 h2
    have g1 := hear_S (h1 p List.mem_cons_self) (h2 p List.mem_cons_self)
    exact g1.trans (ih (fun x hx => h1 x (List.mem_cons_of_mem _ hx)) (fun x hx => by rw [g1.yours]; exact h2 x (List.mem_cons_of_mem _ hx)))
theorem hear_texts {c b : Ch} (k : Nat) (hk : ∀ x ∈ textPs b k, okPost x = true) (hm : b.mine = c.yours) (hy : b.yours = c.mine) (hf : 1 ≤ b.first) (hl : b.first ≤ c.last + 1) : b.first + k ≤ (hearL c (textPs b k)).last + 1 := by
  induction k with
  | zero => simpa [textPs, hearL] using hl
  | succ k ih =>
    rw [textPs_succ] at hk ⊢
    have ih := ih fun x hx => hk x (List.mem_append.2 (.inl hx))
    have g1 := hearL_S (c := c) (ps := textPs b k) (fun x hx => hk x (List.mem_append.2 (.inl hx))) (fun x hx => by obtain ⟨i, _, rfl⟩ := textPs_mem hx; exact hm)
    rw [hearL_append]
    generalize hearL c (textPs b k) = r at *
    show _ ≤ (hear r (textP b k)).2.2.last + 1
    have hc1 : ch1 r (textP b k) = r := if_neg (by simp only [textP]; have := g1.yours; omega)
    obtain ⟨m1, m2, m3, m4, _, m6⟩ := hear_more r (textP b k) (hk _ (by simp)) (by simp only [textP]; have := g1.yours; omega)
    rw [hc1] at m6
    generalize (hear r (textP b k)).2.2 = s at *
    have e1 : (textP b k).seq = b.first + k := rfl
    have e2 : (textP b k).yours = r.mine := by rw [g1.mine]; exact hy
    rcases m6 with ⟨_, _, h3, h4⟩ | ⟨h3, h4⟩
    · omega
    · have : ¬ (textP b k).seq = r.last + 1 := fun h => h3 ⟨e2, by omega, h⟩
      omega
theorem posts_mine {c : Ch} {x : Post} (hx : x ∈ postsL c) : x.mine = c.mine := by
  unfold postsL at hx
  split at hx
  · rcases List.mem_append.1 hx with hx | hx
    · split at hx
      · rw [List.mem_singleton.1 hx]; rfl
      · cases hx
    · split at hx
      · cases hx
      · rw [List.mem_singleton.1 hx]; rfl
  · obtain ⟨i, hi, rfl⟩ := textPs_mem hx
    rfl
theorem textPs_first {c : Ch} {k : Nat} (h : k ≠ 0) : textP c 0 ∈ textPs c k := by
  unfold textPs
  exact List.mem_map.2 ⟨0, List.mem_range.2 (by omega), rfl⟩
/-- an end that is not met posts what makes the other one owe an answer -/
theorem posts_unmet {c : Ch} (hm : c.met = false) (hf : 1 ≤ c.first) (b : Int) (hb : 1 ≤ b) : ∃ x ∈ postsL c, 0 < x.seq ∨ x.yours ≠ b := by
  unfold postsL
  split
  · refine ⟨{ bareP c with yours := 0 }, List.mem_append.2 (.inr ?_), .inr ?_⟩
    · rw [hm]; simp
    · simp only; omega
  · rename_i h
    exact ⟨textP c 0, textPs_first h, .inl (by simp only [textP]; omega)⟩
/-- an end that owes an answer tells it -/
theorem posts_owes {c : Ch} (ho : c.owes = true) : ∃ x ∈ postsL c, x.yours = c.yours ∧ x.ack = c.last := by
  unfold postsL
  split
  · refine ⟨bareP c, List.mem_append.2 (.inl ?_), rfl, rfl⟩
    simp [ho]
  · rename_i h
    exact ⟨textP c 0, textPs_first h, rfl, rfl⟩
section
variable {a b a' b' : Ch}
/-- a round: all posts come -/
structure Rnd (x y x' y' : Ch) : Prop where
  a : x' = hearL (pst x) (postsL y)
  b : y' = hearL (pst y) (postsL x)
theorem Rnd.swap (h : Rnd a b a' b') : Rnd b a b' a' := ⟨h.b, h.a⟩
theorem Rnd.mine (h : Rnd a b a' b') (h2 : Ok2 a b) : a'.mine = a.mine := by rw [h.a]; exact hearL_mine h2.b.ok
theorem Rnd.keep (h : Rnd a b a' b') (h2 : Ok2 a b) (h3 : Ok2 a' b') (hy : a.yours = b.mine) : a'.yours = b.mine := by
  have h4 := (hearL_yours (c := pst a) h2.b.ok).1
  rw [← h.a] at h4
  have h5 := h3.a.yb
  rw [h.swap.mine h2.swap] at h5
  simp only [pst] at h4
  omega
theorem Rnd.learn (h : Rnd a b a' b') (h2 : Ok2 a b) (h3 : Ok2 a' b') (hm : b.met = false) : a'.yours = b.mine := by
  obtain ⟨x, hx, _⟩ := posts_unmet hm h2.b.f1 1 (by omega)
  have h4 := (hearL_yours (c := pst a) h2.b.ok).2 x hx
  rw [← h.a, posts_mine hx] at h4
  have h5 := h3.a.yb
  rw [h.swap.mine h2.swap] at h5
  omega
def P1 (a b : Ch) : Prop := (a.mine < b.mine → a.yours = b.mine) ∧ (b.mine < a.mine → b.yours = a.mine)
def K (a b : Ch) : Prop := a.yours = b.mine ∧ b.yours = a.mine
def K3 (a b : Ch) : Prop := K a b ∧ (a.met = true ∨ b.owes = true) ∧ (b.met = true ∨ a.owes = true)
def M (a b : Ch) : Prop := K a b ∧ a.met = true ∧ b.met = true
def Wn (n : Nat) (a b : Ch) : Prop := M a b ∧ a.wait.length ≤ 8 * n ∧ b.wait.length ≤ 8 * n
def H1 (n : Nat) (a b : Ch) : Prop := a.wait.length ≤ 8 * n ∨ (b.owes = true ∧ (a.wait.length : Int) - 8 * n ≤ b.last + 1 - a.first)
def Hn (n : Nat) (a b : Ch) : Prop := M a b ∧ H1 n a b ∧ H1 n b a
def Q (a b : Ch) : Prop := postsL a = [] ∧ postsL b = []
theorem P1.half (h : Rnd a b a' b') (h2 : Ok2 a b) (h3 : Ok2 a' b') (hlt : a.mine < b.mine) : a'.yours = b.mine := by
  by_cases hy : a.yours = b.mine
  · exact h.keep h2 h3 hy
  · refine h.learn h2 h3 ?_
    cases hm : b.met with
    | false => rfl
    | true => have := h2.b.met hm; have := h2.a.yb; omega
theorem P1.step (h : Rnd a b a' b') (h2 : Ok2 a b) (h3 : Ok2 a' b') : P1 a' b' := by
  unfold P1
  rw [h.mine h2, h.swap.mine h2.swap]
  exact ⟨P1.half h h2 h3, P1.half h.swap h2.swap h3.swap⟩
theorem K.half (h : Rnd a b a' b') (h2 : Ok2 a b) (h3 : Ok2 a' b') (hy : a.yours = b.mine) : b'.yours = a.mine := by
  by_cases hb : b.yours = a.mine
  · exact h.swap.keep h2.swap h3.swap hb
  · refine h.swap.learn h2.swap h3.swap ?_
    cases hm : a.met with
    | false => rfl
    | true => have := h2.a.met hm; have := h2.b.yb; omega
theorem K.step (h : Rnd a b a' b') (h2 : Ok2 a b) (h3 : Ok2 a' b') (hp : P1 a b) : K a' b' := by
  unfold K
  rw [h.mine h2, h.swap.mine h2.swap]
  have := h2.ne
  by_cases hlt : a.mine < b.mine
  · exact ⟨h.keep h2 h3 (hp.1 hlt), K.half h h2 h3 (hp.1 hlt)⟩
  · have hlt : b.mine < a.mine := by omega
    exact ⟨K.half h.swap h2.swap h3.swap (hp.2 hlt), h.swap.keep h2.swap h3.swap (hp.2 hlt)⟩
theorem K.keep (h : Rnd a b a' b') (h2 : Ok2 a b) (h3 : Ok2 a' b') (hk : K a b) : K a' b' := by
  unfold K
  rw [h.mine h2, h.swap.mine h2.swap]
  exact ⟨h.keep h2 h3 hk.1, h.swap.keep h2.swap h3.swap hk.2⟩
theorem K.swap (h : K a b) : K b a := ⟨h.2, h.1⟩
theorem K.sess (h : Rnd a b a' b') (h2 : Ok2 a b) (hk : K a b) : HearS (pst a) (postsL b) a' := by
  rw [h.a]
  exact hearL_S h2.b.ok fun x hx => by rw [posts_mine hx]; exact hk.1.symm
theorem K3.half (h : Rnd a b a' b') (h2 : Ok2 a b) (hk : K a b) : a'.met = true ∨ b'.owes = true := by
  cases hm : a.met with
  | true => exact .inl ((hk.sess h h2).met hm)
  | false =>
    obtain ⟨x, hx, hx2⟩ := posts_unmet hm h2.a.f1 b.mine h2.b.m1
    exact .inr ((hk.swap.sess h.swap h2.swap).owes1 x hx hx2)
theorem K3.step (h : Rnd a b a' b') (h2 : Ok2 a b) (h3 : Ok2 a' b') (hk : K a b) : K3 a' b' := ⟨hk.keep h h2 h3, K3.half h h2 hk, K3.half h.swap h2.swap hk.swap⟩
theorem M.half (h : Rnd a b a' b') (h2 : Ok2 a b) (hk : K a b) (hm : a.met = true ∨ b.owes = true) : a'.met = true := by
  rcases hm with hm | hm
  · exact (hk.sess h h2).met hm
  · obtain ⟨x, hx, hx2, _⟩ := posts_owes hm
    exact (hk.sess h h2).met1 x hx (by rw [hx2]; exact hk.2)
theorem M.step (h : Rnd a b a' b') (h2 : Ok2 a b) (h3 : Ok2 a' b') (hk : K3 a b) : M a' b' := ⟨hk.1.keep h h2 h3, M.half h h2 hk.1 hk.2.1, M.half h.swap h2.swap hk.1.swap hk.2.2⟩
theorem M.keep (h : Rnd a b a' b') (h2 : Ok2 a b) (h3 : Ok2 a' b') (hk : M a b) : M a' b' := ⟨hk.1.keep h h2 h3, M.half h h2 hk.1 (.inl hk.2.1), M.half h.swap h2.swap hk.1.swap (.inl hk.2.2)⟩
theorem M.swap (h : M a b) : M b a := ⟨h.1.swap, h.2.2, h.2.1⟩
theorem Hn.half {n : Nat} (h : Rnd a b a' b') (h2 : Ok2 a b) (hk : M a b) (hw : a.wait.length ≤ 8 * (n + 1)) : H1 n a' b' := by
  have s1 := hk.1.sess h h2
  have s2 := hk.1.swap.sess h.swap h2.swap
  have h4 := s1.sum
  have h5 := s1.first
  simp only [pst] at h4 h5
  by_cases hn : a.wait.length ≤ 8 * n
  · exact .inl (by omega)
  · have hk0 : postK a = min a.wait.length 8 := by
      unfold postK
      rw [if_neg]
      have := h2.b.m1
      have := hk.1.1
      omega
    have hp : postsL a = textPs a (min a.wait.length 8) := by
      unfold postsL
      rw [hk0, if_neg (by omega)]
    have hok := h2.a.ok
    rw [hp] at s2 hok
    have ht := hear_texts (c := pst b) (b := a) (min a.wait.length 8) hok (by simp only [pst]; exact hk.1.2.symm) hk.1.1 h2.a.f1 (h2.a.sound hk.1.1 hk.1.2)
    have hb := h.b
    rw [hp] at hb
    rw [← hb] at ht
    refine .inr ⟨s2.owes1 (textP a 0) (textPs_first (by omega)) (.inl ?_), ?_⟩
    · have := h2.a.f1
      simp only [textP]; omega
    · omega
theorem Hn.step {n : Nat} (h : Rnd a b a' b') (h2 : Ok2 a b) (h3 : Ok2 a' b') (hw : Wn (n + 1) a b) : Hn n a' b' := ⟨hw.1.keep h h2 h3, Hn.half h h2 hw.1 hw.2.1, Hn.half h.swap h2.swap hw.1.swap hw.2.2⟩
theorem Wn.half {n : Nat} (h : Rnd a b a' b') (h2 : Ok2 a b) (hk : M a b) (hw : H1 n a b) : a'.wait.length ≤ 8 * n := by
  have s1 := hk.1.sess h h2
  have h4 := s1.sum
  have h5 := s1.first
  simp only [pst] at h4 h5
  rcases hw with hw | ⟨ho, hw⟩
  · omega
  · obtain ⟨x, hx, hx2, hx3⟩ := posts_owes ho
    have h6 := s1.ack x hx (by rw [hx2]; exact hk.1.2)
    simp only [pst] at h6
    omega
theorem Wn.step {n : Nat} (h : Rnd a b a' b') (h2 : Ok2 a b) (h3 : Ok2 a' b') (hw : Hn n a b) : Wn n a' b' := ⟨hw.1.keep h h2 h3, Wn.half h h2 hw.1 hw.2.1, Wn.half h.swap h2.swap hw.1.swap hw.2.2⟩
theorem Q.half (h : Rnd a b a' b') (h2 : Ok2 a b) (h3 : Ok2 a' b') (hw : Wn 0 a b) : postsL a' = [] := by
  have s1 := hw.1.1.sess h h2
  have h4 := s1.sum
  have h5 := s1.first
  have hwa := hw.2.1
  have hwb := hw.2.2
  simp only [pst] at h4 h5
  have hm := M.half h h2 hw.1.1 (.inl hw.1.2.1)
  have ho : a'.owes = false := by
    refine s1.owes0 (fun x hx => ?_) rfl
    unfold postsL at hx
    have : postK b = 0 := by unfold postK; split <;> omega
    rw [if_pos this, hw.1.2.2] at hx
    simp only [if_true, List.append_nil] at hx
    split at hx
    · rw [List.mem_singleton.1 hx]
      exact ⟨rfl, hw.1.1.2⟩
    · cases hx
  have : postK a' = 0 := by unfold postK; split <;> omega
  unfold postsL
  rw [if_pos this, hm, ho]
  rfl
theorem Q.step (h : Rnd a b a' b') (h2 : Ok2 a b) (h3 : Ok2 a' b') (hw : Wn 0 a b) : Q a' b' := ⟨Q.half h h2 h3 hw, Q.half h.swap h2.swap h3.swap ⟨hw.1.swap, hw.2.2, hw.2.1⟩⟩
/-- how far the ends are behind r rounds -/
def Ph (r : Nat) (a b : Ch) : Prop :=
  match r with
  | 0 => True
  | 1 => P1 a b
  | 2 => K a b
  | 3 => K3 a b
  | n + 4 => if n % 2 = 0 then Wn (15 - n / 2) a b else Hn (15 - (n + 1) / 2) a b
theorem Ph.step {r : Nat} (h : Rnd a b a' b') (h2 : Ok2 a b) (h3 : Ok2 a' b') (hr : r < 34) (hp : Ph r a b) : Ph (r + 1) a' b' := by
  match r, hp with
  | 0, _ => exact P1.step h h2 h3
  | 1, hp => exact K.step h h2 h3 hp
  | 2, hp => exact K3.step h h2 h3 hp
  | 3, hp =>
    have hm := M.step h h2 h3 hp
    show (if 0 % 2 = 0 then Wn (15 - 0 / 2) a' b' else Hn (15 - (0 + 1) / 2) a' b')
    exact ⟨hm, by have := h3.a.w; omega, by have := h3.b.w; omega⟩
  | n + 4, hp =>
    have hp : (if n % 2 = 0 then Wn (15 - n / 2) a b else Hn (15 - (n + 1) / 2) a b) := hp
    show (if (n + 1) % 2 = 0 then Wn (15 - (n + 1) / 2) a' b' else Hn (15 - (n + 1 + 1) / 2) a' b')
    by_cases hn : n % 2 = 0
    · rw [if_pos hn] at hp
      rw [if_neg (by omega)]
      rw [show 15 - n / 2 = (15 - (n + 1 + 1) / 2) + 1 by omega] at hp
      exact Hn.step h h2 h3 hp
    · rw [if_neg hn] at hp
      rw [if_pos (by omega)]
      exact Wn.step h h2 h3 hp
theorem Ph.quiet (h : Rnd a b a' b') (h2 : Ok2 a b) (h3 : Ok2 a' b') (hp : Ph 34 a b) : Q a' b' := Q.step h h2 h3 hp
/-- what is so where nothing is posted any more -/
theorem Q.done (hq : Q a b) (h2 : Ok2 a b) : K a b ∧ a.wait = [] ∧ b.wait = [] := by
  have key : ∀ c : Ch, postsL c = [] → postK c = 0 ∧ c.met = true := fun c hc => by
    unfold postsL at hc
    split at hc
    · rename_i h
      refine ⟨h, ?_⟩
      cases hm : c.met with
      | true => rfl
      | false => rw [hm] at hc; simp at hc
    · rename_i h
      have := congrArg List.length hc
      rw [textPs_length] at this
      exact absurd this h
  obtain ⟨h3, h4⟩ := key a hq.1
  obtain ⟨h5, h6⟩ := key b hq.2
  have g1 := h2.a.met h4
  have g2 := h2.b.met h6
  have g3 := h2.a.yb
  have g4 := h2.b.yb
  have g5 := h2.a.m1
  have g6 := h2.b.m1
  have hk : K a b := ⟨by omega, by omega⟩
  have nil : ∀ c : Ch, postK c = 0 → 1 ≤ c.yours → c.wait = [] := fun c h0 hy => by
    unfold postK at h0
    rw [if_neg (by omega)] at h0
    exact List.eq_nil_of_length_eq_zero (by omega)
  obtain ⟨k1, k2⟩ := hk
  exact ⟨⟨k1, k2⟩, nil a h3 (by omega), nil b h5 (by omega)⟩
end
end Go.Proofs.Ythmfmpkkbgapoaa.Ses
