/- session: epochs and acknowledgements between two ends: plain laws. -/
import Derived.Test.YtpmebmbibajcoaaOnceP
set_option linter.unusedSimpArgs false
set_option linter.unusedVariables false
namespace Go.Proofs.Ytpmebmbibajcoaa
open Go.RowKit
/-- what a post that is none too old does to an end, field by field -/
structure HearM (c : Ch) (p : Post) (r : Ch) : Prop where
  mine : r.mine = c.mine
  yours : r.yours = p.mine
  owes : r.owes = ((ch1 c p).owes || (decide (c.yours < p.mine) || (decide (0 < p.seq) || decide (p.yours ≠ c.mine))))
  met : r.met = ((ch1 c p).met || decide (p.yours = c.mine))
  n : ∃ n : Nat, n ≤ (ch1 c p).wait.length ∧ r.wait = (ch1 c p).wait.drop n ∧ r.first = (ch1 c p).first + n ∧ (p.yours ≠ c.mine → n = 0) ∧ (p.yours = c.mine → (n : Int) = max 0 (min (p.ack - (ch1 c p).first + 1) (ch1 c p).wait.length))
  last : (p.yours = c.mine ∧ 0 < p.seq ∧ p.seq = (ch1 c p).last + 1 ∧ r.last = (ch1 c p).last + 1) ∨ (¬ (p.yours = c.mine ∧ 0 < p.seq ∧ p.seq = (ch1 c p).last + 1) ∧ r.last = (ch1 c p).last)
theorem hear_more (c : Ch) (p : Post) (hk : okPost p = true) (hle : c.yours ≤ p.mine) : HearM c p (hear c p).2.2 := by
  have hm : (ch1 c p).mine = c.mine := by unfold ch1; split <;> rfl
  have hy : (ch1 c p).yours = p.mine := by
    unfold ch1
    split
    · rfl
    · omega
  have e3 : (ch3 c p).mine = (ch1 c p).mine ∧ (ch3 c p).yours = (ch1 c p).yours ∧ (ch3 c p).wait = (ch1 c p).wait ∧ (ch3 c p).first = (ch1 c p).first ∧ (ch3 c p).last = (ch1 c p).last ∧ (ch3 c p).met = true ∧ (ch3 c p).owes = (ch2 c p).owes := ⟨rfl, rfl, rfl, rfl, rfl, rfl, rfl⟩
  have e2 : (ch2 c p).mine = (ch1 c p).mine ∧ (ch2 c p).yours = (ch1 c p).yours ∧ (ch2 c p).wait = (ch1 c p).wait ∧ (ch2 c p).first = (ch1 c p).first ∧ (ch2 c p).last = (ch1 c p).last ∧ (ch2 c p).met = (ch1 c p).met ∧ (ch2 c p).owes = ((ch1 c p).owes || (decide (c.yours < p.mine) || (decide (0 < p.seq) || decide (p.yours ≠ c.mine)))) := ⟨rfl, rfl, rfl, rfl, rfl, rfl, rfl⟩
  obtain ⟨a1, a2, a3, a4, a5, a6, a7⟩ := e3
  obtain ⟨b1, b2, b3, b4, b5, b6, b7⟩ := e2
  have e4 : (ch4 c p).mine = (ch1 c p).mine ∧ (ch4 c p).yours = (ch1 c p).yours ∧ (ch4 c p).last = (ch1 c p).last ∧ (ch4 c p).met = true ∧ (ch4 c p).owes = (ch2 c p).owes ∧ ∃ n : Nat, n ≤ (ch1 c p).wait.length ∧ (ch4 c p).wait = (ch1 c p).wait.drop n ∧ (ch4 c p).first = (ch1 c p).first + n ∧ (n : Int) = max 0 (min (p.ack - (ch1 c p).first + 1) (ch1 c p).wait.length) := by
    have hN : hearN (ch3 c p) p = min (p.ack - (ch1 c p).first + 1) ((ch1 c p).wait.length : Int) := by unfold hearN; rw [a4, a3]
    unfold ch4
    split
    · refine ⟨a1, a2, a5, a6, a7, (hearN (ch3 c p) p).toNat, by omega, by simp only; rw [a3], by simp only; rw [a4]; omega, ?_⟩
      rw [hN] at *
      omega
    · refine ⟨a1, a2, a5, a6, a7, 0, Nat.zero_le _, by rw [a3, List.drop_zero], by rw [a4]; simp, ?_⟩
      rw [hN] at *
      omega
  obtain ⟨d1, d2, d3, d4, d5, n, d6, d7, d8, d9⟩ := e4
  unfold hear
  rw [if_neg (by rw [hk]; simp), if_neg (by omega)]
  by_cases h1 : p.yours ≠ c.mine
  · rw [if_pos h1]
    exact ⟨by simp only; rw [b1, hm], by simp only; rw [b2, hy], b7, by simp only; rw [b6, decide_eq_false h1, Bool.or_false], ⟨0, Nat.zero_le _, by simp only; rw [b3, List.drop_zero], by simp only; rw [b4]; simp, fun _ => rfl, fun h => absurd h h1⟩, .inr ⟨fun h => h1 h.1, b5⟩⟩
  · rw [if_neg h1]
    have h1' : p.yours = c.mine := Decidable.not_not.1 h1
    by_cases h2 : 0 < p.seq ∧ p.seq = (ch4 c p).last + 1
    · rw [if_pos h2]
      exact ⟨by simp only; rw [d1, hm], by simp only; rw [d2, hy], by simp only; rw [d5, b7], by simp only; rw [d4, decide_eq_true h1', Bool.or_true], ⟨n, d6, d7, d8, fun h => absurd h1' h, fun _ => d9⟩, .inl ⟨h1', h2.1, by rw [← d3]; exact h2.2, by simp only; rw [d3]⟩⟩
    · rw [if_neg h2]
      exact ⟨by simp only; rw [d1, hm], by simp only; rw [d2, hy], by simp only; rw [d5, b7], by simp only; rw [d4, decide_eq_true h1', Bool.or_true], ⟨n, d6, d7, d8, fun h => absurd h1' h, fun _ => d9⟩, .inr ⟨fun h => h2 ⟨h.2.1, by rw [d3]; exact h.2.2⟩, by simp only; rw [d3]⟩⟩
/-- a post under way to d, as to the other end's epochs and acknowledgements -/
structure NetP (d o : Side) (x : Post) : Prop where
  epo : (x.mine = o.c.mine ∧ x.yours ≤ o.c.yours) ∨ (x.mine < o.c.mine ∧ x.yours < o.c.mine)
  ack : x.mine = o.c.mine → x.yours = d.c.mine → o.c.yours = d.c.mine → x.ack ≤ o.c.last
/-- an end and the other one, as to epochs and acknowledgements -/
structure Net (d o : Side) : Prop where
  way : ∀ x ∈ d.way, NetP d o x
  met : d.c.met = true → (d.c.yours = o.c.mine ∧ d.c.mine ≤ o.c.yours) ∨ (d.c.yours < o.c.mine ∧ d.c.mine < o.c.mine)
  fst : d.c.met = false → d.c.first = 1
  sound : d.c.yours = o.c.mine → o.c.yours = d.c.mine → d.c.first ≤ o.c.last + 1
structure Net2 (d o : Side) : Prop where
  a : Net d o
  b : Net o d
theorem Net2.swap {d o : Side} (h : Net2 d o) : Net2 o d := ⟨h.b, h.a⟩
theorem Net2.start : Net2 (newSide 1 []) (newSide 2 []) := by
  have h : ∀ m n : Int, Net (newSide m []) (newSide n []) := fun m n => ⟨(fun x hx => by cases hx), (fun h => by simp [newSide] at h), fun _ => rfl, fun _ _ => by simp [newSide]⟩
  exact ⟨h _ _, h _ _⟩
/-- the channel's fields that count here -/
structure Alike (c c' : Ch) : Prop where
  mine : c'.mine = c.mine
  yours : c'.yours = c.yours
  first : c'.first = c.first
  last : c'.last = c.last
  met : c'.met = c.met
theorem Net2.alike {d o : Side} (h : Net2 d o) {c : Ch} (hc : Alike d.c c) (S H : List ByteArray) : Net2 ⟨c, S, H, d.way⟩ o := by
  obtain ⟨h1, h2, h3, h4, h5⟩ := hc
  obtain ⟨⟨a1, a2, a3, a4⟩, ⟨b1, b2, b3, b4⟩⟩ := h
  refine ⟨⟨fun x hx => ⟨(a1 x hx).epo, ?_⟩, ?_, ?_, ?_⟩, ⟨fun x hx => ⟨?_, ?_⟩, ?_, b3, ?_⟩⟩ <;> simp only [h1, h2, h3, h4, h5]
  · exact (a1 x hx).ack
  · exact a2
  · exact a3
  · exact a4
  · exact (b1 x hx).epo
  · exact (b1 x hx).ack
  · exact b2
  · exact b4
theorem Net2.ways {d o : Side} (h : Net2 d o) (way : List Post) (hw : ∀ x ∈ way, NetP d o x) : Net2 ⟨d.c, d.said, d.heard, way⟩ o := by
  obtain ⟨⟨a1, a2, a3, a4⟩, ⟨b1, b2, b3, b4⟩⟩ := h
  exact ⟨⟨fun x hx => ⟨(hw x hx).epo, (hw x hx).ack⟩, a2, a3, a4⟩, ⟨fun x hx => ⟨(b1 x hx).epo, (b1 x hx).ack⟩, b2, b3, b4⟩⟩
theorem Net2.say {d o : Side} (h : Net2 d o) (t : ByteArray) : Net2 (saySide d t) o := by
  unfold saySide
  refine h.alike ?_ _ _
  unfold sayC
  split <;> exact ⟨rfl, rfl, rfl, rfl, rfl⟩
theorem mem_posts {c : Ch} (hy0 : 0 ≤ c.yours) {x : Post} (hx : x ∈ postsL c) : x.mine = c.mine ∧ x.ack = c.last ∧ (x.yours = c.yours ∨ x.yours = 0) ∧ x.yours ≤ c.yours := by
  unfold postsL at hx
  split at hx
  · rcases List.mem_append.1 hx with hx | hx
    · split at hx
      · obtain rfl := List.mem_singleton.1 hx
        exact ⟨rfl, rfl, .inl rfl, Int.le_refl _⟩
      · cases hx
    · split at hx
      · cases hx
      · obtain rfl := List.mem_singleton.1 hx
        exact ⟨rfl, rfl, .inr rfl, hy0⟩
  · obtain ⟨i, hi, rfl⟩ := textPs_mem hx
    exact ⟨rfl, rfl, .inl rfl, Int.le_refl _⟩
theorem Net2.posts {T : Nat} {next : Int} {d o : Side} {old : List Old} (hI : Inv T next d o old) (h : Net2 d o) : Net2 ⟨{ d.c with owes := false }, d.said, d.heard, d.way⟩ ⟨o.c, o.said, o.heard, o.way ++ postsL d.c⟩ := by
  have h1 := h.alike (c := { d.c with owes := false }) ⟨rfl, rfl, rfl, rfl, rfl⟩ d.said d.heard
  refine (h1.swap.ways (o.way ++ postsL d.c) fun x hx => ?_).swap
  rcases List.mem_append.1 hx with hx | hx
  · exact ⟨(h.b.way x hx).epo, (h.b.way x hx).ack⟩
  · obtain ⟨h2, h3, h4, h5⟩ := mem_posts hI.d1.y0 hx
    exact ⟨.inl ⟨h2, h5⟩, fun _ _ _ => by rw [h3]; exact Int.le_refl _⟩
theorem Net2.begin {T : Nat} {next : Int} {d o : Side} {old : List Old} (hI : Inv T next d o old) (h : Net2 d o) : Net2 (newSide (next + 1) d.way) o := by
  have h1 := hI.d1.m1
  have h2 := hI.d1.m2
  have h3 := hI.o1.m2
  have h4 := hI.o1.m1
  have h5 := hI.d2.yo
  have h6 := hI.o2.yo
  have h7 := hI.o2.last
  have h8 := hI.d2.last
  obtain ⟨⟨a1, a2, a3, a4⟩, ⟨b1, b2, b3, b4⟩⟩ := h
  refine ⟨⟨fun x hx => ⟨(a1 x hx).epo, fun _ _ h => ?_⟩, fun h => by simp [newSide] at h, fun _ => rfl, fun _ _ => ?_⟩, ⟨fun x hx => ⟨.inr ?_, fun h _ _ => ?_⟩, fun h => .inr ?_, b3, fun h _ => ?_⟩⟩
  · simp only [newSide] at h; omega
  · simp only [newSide]; omega
  · have := (b1 x hx).epo
    simp only [newSide]; omega
  · have := (b1 x hx).epo
    simp only [newSide] at h; omega
  · have := b2 h
    simp only [newSide]; omega
  · simp only [newSide] at h; omega
theorem Net2.comes {T : Nat} {next : Int} {d o : Side} {old : List Old} (hI : Inv T next d o old) (h : Net2 d o) (x : Post) (hk : okPost x = true) (hx : NetP d o x) (hle : d.c.yours ≤ x.mine) : Net2 (comesSide d x) o := by
  have h1 := hI.d1.m1
  have h5 := hI.d2.yo
  have h6 := hI.o2.yo
  have h7 := hI.o2.last
  have h8 := hI.d2.last
  obtain ⟨m1, m2, m3, m4, ⟨n, n1, n2, n3, n4, n5⟩, m6⟩ := hear_more d.c x hk hle
  obtain ⟨⟨a1, a2, a3, a4⟩, ⟨b1, b2, b3, b4⟩⟩ := h
  obtain ⟨x1, x2⟩ := hx
  unfold comesSide
  generalize (hear d.c x).2.2 = r at *
  have hl0 : 0 ≤ (ch1 d.c x).last := by unfold ch1; split <;> (try simp only) <;> omega
  by_cases han : d.c.yours < x.mine
  · have hc1 : ch1 d.c x = ⟨d.c.mine, x.mine, 1, [], 0, false, false⟩ := if_pos han
    rw [hc1] at m4 n1 n2 n3 n5 m6
    simp only [List.length_nil, Bool.false_or] at m4 n1 n2 n3 n5 m6
    have hn0 : n = 0 := by omega
    subst hn0
    refine ⟨⟨fun y hy => ⟨(a1 y hy).epo, ?_⟩, fun hm => ?_, fun _ => by simp only; omega, fun _ _ => by simp only; omega⟩, ⟨fun y hy => ⟨?_, fun g1 g2 g3 => ?_⟩, fun hm => ?_, b3, fun g1 g2 => ?_⟩⟩
    · simp only [m1]; exact (a1 y hy).ack
    · simp only at hm ⊢
      rw [m4, decide_eq_true_eq] at hm
      omega
    · have := (b1 y hy).epo
      simp only; omega
    · have := (b1 y hy).epo
      simp only at g1 g2 g3; omega
    · have := b2 hm
      simp only; omega
    · simp only at g1 g2 ⊢
      have : o.c.met = false := by
        cases hom : o.c.met with
        | false => rfl
        | true => have := b2 hom; omega
      have := b3 this
      omega
  · have hc1 : ch1 d.c x = d.c := if_neg han
    have hye : d.c.yours = x.mine := by omega
    rw [hc1] at m4 n1 n2 n3 n5 m6
    have hlm : d.c.last ≤ r.last := by omega
    refine ⟨⟨fun y hy => ⟨(a1 y hy).epo, ?_⟩, fun hm => ?_, fun hm => ?_, fun g1 g2 => ?_⟩, ⟨fun y hy => ⟨?_, fun g1 g2 g3 => ?_⟩, fun hm => ?_, b3, fun g1 g2 => ?_⟩⟩
    · simp only [m1]; exact (a1 y hy).ack
    · simp only at hm ⊢
      rw [m4, Bool.or_eq_true, decide_eq_true_eq] at hm
      rcases hm with hm | hm
      · have := a2 hm; omega
      · omega
    · simp only at hm ⊢
      rw [m4, Bool.or_eq_false_iff, decide_eq_false_iff_not] at hm
      have := a3 hm.1
      have := n4 hm.2
      omega
    · simp only at g1 g2 ⊢
      rw [m2] at g1
      rw [m1] at g2
      have := a4 (by omega) g2
      by_cases hxy : x.yours = d.c.mine
      · have := x2 g1 hxy g2
        have := n5 hxy
        omega
      · have := n4 hxy
        omega
    · have := (b1 y hy).epo
      simp only; omega
    · simp only at g1 g2 g3 ⊢
      have := (b1 y hy).ack (by omega) g2 (by omega)
      omega
    · have := b2 hm
      simp only; omega
    · simp only at g1 g2 ⊢
      have := b4 (by omega) (by omega)
      omega
end Go.Proofs.Ytpmebmbibajcoaa
