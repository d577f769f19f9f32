/- session: rounds in which all posts come: after at most 36 of them nothing is posted any more: plain laws. -/
import Derived.Test.YtpmebmbibajcoaaOnceN
set_option linter.unusedSimpArgs false
set_option linter.unusedVariables false
namespace Go.Proofs.Ytpmebmbibajcoaa
open Go.RowKit
def hearL (c : Ch) (ps : List Post) : Ch := ps.foldl (fun c p => (hear c p).2.2) c
theorem hearL_cons (c : Ch) (p : Post) (ps : List Post) : hearL c (p :: ps) = hearL (hear c p).2.2 ps := rfl
theorem hearL_append (c : Ch) (ps qs : List Post) : hearL c (ps ++ qs) = hearL (hearL c ps) qs := by unfold hearL; rw [List.foldl_append]
def pst (c : Ch) : Ch := { c with owes := false }
/-- an end, ahead of what it posts -/
structure Ok1 (a b : Ch) : Prop where
  m1 : 1 ≤ a.mine
  y0 : 0 ≤ a.yours
  yb : a.yours ≤ b.mine
  f1 : 1 ≤ a.first
  l0 : 0 ≤ a.last
  w : a.wait.length ≤ 120
  met : a.met = true → (a.yours = b.mine ∧ a.mine ≤ b.yours) ∨ (a.yours < b.mine ∧ a.mine < b.mine)
  sound : a.yours = b.mine → b.yours = a.mine → a.first ≤ b.last + 1
  ok : ∀ x ∈ postsL a, okPost x = true
structure Ok2 (x y : Ch) : Prop where
  a : Ok1 x y
  b : Ok1 y x
  ne : x.mine ≠ y.mine
theorem Ok2.swap {a b : Ch} (h : Ok2 a b) : Ok2 b a := ⟨h.b, h.a, h.ne.symm⟩
theorem hear_late {c : Ch} {p : Post} (hk : okPost p = true) (h : p.mine < c.yours) : (hear c p).2.2 = c := by rw [hear_old c p hk h]
theorem hear_mine {c : Ch} {p : Post} (hk : okPost p = true) : (hear c p).2.2.mine = c.mine := by
  by_cases h : p.mine < c.yours
  · rw [hear_late hk h]
  · exact (hear_more c p hk (by omega)).mine
theorem hear_yours {c : Ch} {p : Post} (hk : okPost p = true) : c.yours ≤ (hear c p).2.2.yours ∧ p.mine ≤ (hear c p).2.2.yours := by
  by_cases h : p.mine < c.yours
  · rw [hear_late hk h]; omega
  · rw [(hear_more c p hk (by omega)).yours]; omega
theorem hearL_mine {ps : List Post} : ∀ {c : Ch}, (∀ x ∈ ps, okPost x = true) → (hearL c ps).mine = c.mine := by
  induction ps with
  | nil => intro c _; rfl
  | cons p r ih =>
    intro c h
    rw [hearL_cons, ih (fun x hx => h x (List.mem_cons_of_mem _ hx)), hear_mine (h p List.mem_cons_self)]
theorem hearL_yours {ps : List Post} : ∀ {c : Ch}, (∀ x ∈ ps, okPost x = true) → c.yours ≤ (hearL c ps).yours ∧ ∀ x ∈ ps, x.mine ≤ (hearL c ps).yours := by
  induction ps with
  | nil => intro c _; exact ⟨Int.le_refl _, fun x hx => by cases hx⟩
  | cons p r ih =>
    intro c h
    obtain ⟨h1, h2⟩ := ih (c := (hear c p).2.2) (fun x hx => h x (List.mem_cons_of_mem _ hx))
    obtain ⟨h3, h4⟩ := hear_yours (c := c) (h p List.mem_cons_self)
    rw [hearL_cons]
    refine ⟨by omega, fun x hx => ?_⟩
    rcases List.mem_cons.1 hx with rfl | hx
    · omega
    · exact h2 x hx
/-- posts of the session that an end knows -/
structure HearS (c : Ch) (ps : List Post) (r : Ch) : Prop where
  mine : r.mine = c.mine
  yours : r.yours = c.yours
  met : c.met = true → r.met = true
  owes : c.owes = true → r.owes = true
  owes1 : ∀ x ∈ ps, 0 < x.seq ∨ x.yours ≠ c.mine → r.owes = true
  owes0 : (∀ x ∈ ps, x.seq = 0 ∧ x.yours = c.mine) → c.owes = false → r.owes = false
  met1 : ∀ x ∈ ps, x.yours = c.mine → r.met = true
  first : c.first ≤ r.first
  sum : r.first + r.wait.length = c.first + c.wait.length
  last : c.last ≤ r.last
  ack : ∀ x ∈ ps, x.yours = c.mine → min (x.ack + 1) (c.first + c.wait.length) ≤ r.first
theorem hear_S {c : Ch} {p : Post} (hk : okPost p = true) (hm : p.mine = c.yours) : HearS c [p] (hear c p).2.2 := by
  obtain ⟨m1, m2, m3, m4, ⟨n, n1, n2, n3, n4, n5⟩, m6⟩ := hear_more c p hk (by omega)
  have hc1 : ch1 c p = c := if_neg (by omega)
  rw [hc1] at m3 m4 n1 n2 n3 n5 m6
  have hlt : decide (c.yours < p.mine) = false := decide_eq_false (by omega)
  rw [hlt, Bool.false_or] at m3
  generalize (hear c p).2.2 = r at *
  have hw : r.wait.length = c.wait.length - n := by rw [n2, List.length_drop]
  refine ⟨m1, by rw [m2, hm], fun h => by rw [m4, h, Bool.true_or], fun h => by rw [m3, h, Bool.true_or], fun x hx h => ?_, fun h0 h => ?_, fun x hx h => ?_, by omega, by omega, by omega, fun x hx h => ?_⟩
  · obtain rfl := List.mem_singleton.1 hx
    rw [m3]
    rcases h with h | h
    · rw [decide_eq_true h]; simp
    · rw [decide_eq_true h]; simp
  · obtain ⟨h1, h2⟩ := h0 p (List.mem_singleton.2 rfl)
    rw [m3, h, decide_eq_false (by omega), decide_eq_false (by simp [h2])]
    rfl
  · obtain rfl := List.mem_singleton.1 hx
    rw [m4, decide_eq_true h, Bool.or_true]
  · obtain rfl := List.mem_singleton.1 hx
    have := n5 h
    omega
theorem HearS.trans {c r s : Ch} {ps qs : List Post} (h : HearS c ps r) (g : HearS r qs s) : HearS c (ps ++ qs) s := by
  have e1 := h.mine
  refine ⟨g.mine.trans e1, g.yours.trans h.yours, fun x => g.met (h.met x), fun x => g.owes (h.owes x), fun x hx hh => ?_, fun h0 hc => ?_, fun x hx hh => ?_, Int.le_trans h.first g.first, g.sum.trans h.sum, Int.le_trans h.last g.last, fun x hx hh => ?_⟩
  · rcases List.mem_append.1 hx with hx | hx
    · exact g.owes (h.owes1 x hx hh)
    · exact g.owes1 x hx (by rw [e1]; exact hh)
  · exact g.owes0 (fun x hx => by rw [e1]; exact h0 x (List.mem_append.2 (.inr hx))) (h.owes0 (fun x hx => h0 x (List.mem_append.2 (.inl hx))) hc)
  · rcases List.mem_append.1 hx with hx | hx
    · exact g.met (h.met1 x hx hh)
    · exact g.met1 x hx (by rw [e1]; exact hh)
  · have h2 := g.first
    have h3 := h.sum
    rcases List.mem_append.1 hx with hx | hx
    · have := h.ack x hx hh; omega
    · have := g.ack x hx (by rw [e1]; exact hh); omega
theorem hearL_S {ps : List Post} : ∀ {c : Ch}, (∀ x ∈ ps, okPost x = true) → (∀ x ∈ ps, x.mine = c.yours) → HearS c ps (hearL c ps) := by
  induction ps with
  | nil => intro c _ _; exact ⟨rfl, rfl, id, id, (fun x hx => by cases hx), fun _ h => h, (fun x hx => by cases hx), Int.le_refl _, rfl, Int.le_refl _, fun x hx => by cases hx⟩
  | cons p r ih =>
    intro c h1 h2
    have g1 := hear_S (h1 p List.mem_cons_self) (h2 p List.mem_cons_self)
    exact g1.trans (ih (fun x hx => h1 x (List.mem_cons_of_mem _ hx)) (fun x hx => by rw [g1.yours]; exact h2 x (List.mem_cons_of_mem _ hx)))
theorem hear_texts {c b : Ch} (k : Nat) (hk : ∀ x ∈ textPs b k, okPost x = true) (hm : b.mine = c.yours) (hy : b.yours = c.mine) (hf : 1 ≤ b.first) (hl : b.first ≤ c.last + 1) : b.first + k ≤ (hearL c (textPs b k)).last + 1 := by
  induction k with
  | zero => simpa [textPs, hearL] using hl
  | succ k ih =>
    rw [textPs_succ] at hk ⊢
    have ih := ih fun x hx => hk x (List.mem_append.2 (.inl hx))
    have g1 := hearL_S (c := c) (ps := textPs b k) (fun x hx => hk x (List.mem_append.2 (.inl hx))) (fun x hx => by obtain ⟨i, _, rfl⟩ := textPs_mem hx; exact hm)
    rw [hearL_append]
    generalize hearL c (textPs b k) = r at *
    show _ ≤ (hear r (textP b k)).2.2.last + 1
    have hc1 : ch1 r (textP b k) = r := if_neg (by simp only [textP]; have := g1.yours; omega)
    obtain ⟨m1, m2, m3, m4, _, m6⟩ := hear_more r (textP b k) (hk _ (by simp)) (by simp only [textP]; have := g1.yours; omega)
    rw [hc1] at m6
    generalize (hear r (textP b k)).2.2 = s at *
    have e1 : (textP b k).seq = b.first + k := rfl
    have e2 : (textP b k).yours = r.mine := by rw [g1.mine]; exact hy
    rcases m6 with ⟨_, _, h3, h4⟩ | ⟨h3, h4⟩
    · omega
    · have : ¬ (textP b k).seq = r.last + 1 := fun h => h3 ⟨e2, by omega, h⟩
      omega
theorem posts_mine {c : Ch} {x : Post} (hx : x ∈ postsL c) : x.mine = c.mine := by
  unfold postsL at hx
  split at hx
  · rcases List.mem_append.1 hx with hx | hx
    · split at hx
      · rw [List.mem_singleton.1 hx]; rfl
      · cases hx
    · split at hx
      · cases hx
      · rw [List.mem_singleton.1 hx]; rfl
  · obtain ⟨i, hi, rfl⟩ := textPs_mem hx
    rfl
theorem textPs_first {c : Ch} {k : Nat} (h : k ≠ 0) : textP c 0 ∈ textPs c k := by
  unfold textPs
  exact List.mem_map.2 ⟨0, List.mem_range.2 (by omega), rfl⟩
/-- an end that is not met posts what makes the other one owe an answer -/
theorem posts_unmet {c : Ch} (hm : c.met = false) (hf : 1 ≤ c.first) (b : Int) (hb : 1 ≤ b) : ∃ x ∈ postsL c, 0 < x.seq ∨ x.yours ≠ b := by
  unfold postsL
  split
  · refine ⟨{ bareP c with yours := 0 }, List.mem_append.2 (.inr ?_), .inr ?_⟩
    · rw [hm]; simp
    · simp only; omega
  · rename_i h
    exact ⟨textP c 0, textPs_first h, .inl (by simp only [textP]; omega)⟩
/-- an end that owes an answer tells it -/
theorem posts_owes {c : Ch} (ho : c.owes = true) : ∃ x ∈ postsL c, x.yours = c.yours ∧ x.ack = c.last := by
  unfold postsL
  split
  · refine ⟨bareP c, List.mem_append.2 (.inl ?_), rfl, rfl⟩
    simp [ho]
  · rename_i h
    exact ⟨textP c 0, textPs_first h, rfl, rfl⟩
section
variable {a b a' b' : Ch}
/-- a round: all posts come -/
structure Rnd (x y x' y' : Ch) : Prop where
  a : x' = hearL (pst x) (postsL y)
  b : y' = hearL (pst y) (postsL x)
theorem Rnd.swap (h : Rnd a b a' b') : Rnd b a b' a' := ⟨h.b, h.a⟩
theorem Rnd.mine (h : Rnd a b a' b') (h2 : Ok2 a b) : a'.mine = a.mine := by rw [h.a]; exact hearL_mine h2.b.ok
theorem Rnd.keep (h : Rnd a b a' b') (h2 : Ok2 a b) (h3 : Ok2 a' b') (hy : a.yours = b.mine) : a'.yours = b.mine := by
  have h4 := (hearL_yours (c := pst a) h2.b.ok).1
  rw [← h.a] at h4
  have h5 := h3.a.yb
  rw [h.swap.mine h2.swap] at h5
  simp only [pst] at h4
  omega
theorem Rnd.learn (h : Rnd a b a' b') (h2 : Ok2 a b) (h3 : Ok2 a' b') (hm : b.met = false) : a'.yours = b.mine := by
  obtain ⟨x, hx, _⟩ := posts_unmet hm h2.b.f1 1 (by omega)
  have h4 := (hearL_yours (c := pst a) h2.b.ok).2 x hx
  rw [← h.a, posts_mine hx] at h4
  have h5 := h3.a.yb
  rw [h.swap.mine h2.swap] at h5
  omega
def P1 (a b : Ch) : Prop := (a.mine < b.mine → a.yours = b.mine) ∧ (b.mine < a.mine → b.yours = a.mine)
def K (a b : Ch) : Prop := a.yours = b.mine ∧ b.yours = a.mine
def K3 (a b : Ch) : Prop := K a b ∧ (a.met = true ∨ b.owes = true) ∧ (b.met = true ∨ a.owes = true)
def M (a b : Ch) : Prop := K a b ∧ a.met = true ∧ b.met = true
def Wn (n : Nat) (a b : Ch) : Prop := M a b ∧ a.wait.length ≤ 8 * n ∧ b.wait.length ≤ 8 * n
def H1 (n : Nat) (a b : Ch) : Prop := a.wait.length ≤ 8 * n ∨ (b.owes = true ∧ (a.wait.length : Int) - 8 * n ≤ b.last + 1 - a.first)
def Hn (n : Nat) (a b : Ch) : Prop := M a b ∧ H1 n a b ∧ H1 n b a
def Q (a b : Ch) : Prop := postsL a = [] ∧ postsL b = []
theorem P1.half (h : Rnd a b a' b') (h2 : Ok2 a b) (h3 : Ok2 a' b') (hlt : a.mine < b.mine) : a'.yours = b.mine := by
  by_cases hy : a.yours = b.mine
  · exact h.keep h2 h3 hy
  · refine h.learn h2 h3 ?_
    cases hm : b.met with
    | false => rfl
    | true => have := h2.b.met hm; have := h2.a.yb; omega
theorem P1.step (h : Rnd a b a' b') (h2 : Ok2 a b) (h3 : Ok2 a' b') : P1 a' b' := by
  unfold P1
  rw [h.mine h2, h.swap.mine h2.swap]
  exact ⟨P1.half h h2 h3, P1.half h.swap h2.swap h3.swap⟩
theorem K.half (h : Rnd a b a' b') (h2 : Ok2 a b) (h3 : Ok2 a' b') (hy : a.yours = b.mine) : b'.yours = a.mine := by
  by_cases hb : b.yours = a.mine
  · exact h.swap.keep h2.swap h3.swap hb
  · refine h.swap.learn h2.swap h3.swap ?_
    cases hm : a.met with
    | false => rfl
    | true => have := h2.a.met hm; have := h2.b.yb; omega
theorem K.step (h : Rnd a b a' b') (h2 : Ok2 a b) (h3 : Ok2 a' b') (hp : P1 a b) : K a' b' := by
  unfold K
  rw [h.mine h2, h.swap.mine h2.swap]
  have := h2.ne
  by_cases hlt : a.mine < b.mine
  · exact ⟨h.keep h2 h3 (hp.1 hlt), K.half h h2 h3 (hp.1 hlt)⟩
  · have hlt : b.mine < a.mine := by omega
    exact ⟨K.half h.swap h2.swap h3.swap (hp.2 hlt), h.swap.keep h2.swap h3.swap (hp.2 hlt)⟩
theorem K.keep (h : Rnd a b a' b') (h2 : Ok2 a b) (h3 : Ok2 a' b') (hk : K a b) : K a' b' := by
  unfold K
  rw [h.mine h2, h.swap.mine h2.swap]
  exact ⟨h.keep h2 h3 hk.1, h.swap.keep h2.swap h3.swap hk.2⟩
theorem K.swap (h : K a b) : K b a := ⟨h.2, h.1⟩
theorem K.sess (h : Rnd a b a' b') (h2 : Ok2 a b) (hk : K a b) : HearS (pst a) (postsL b) a' := by
  rw [h.a]
  exact hearL_S h2.b.ok fun x hx => by rw [posts_mine hx]; exact hk.1.symm
theorem K3.half (h : Rnd a b a' b') (h2 : Ok2 a b) (hk : K a b) : a'.met = true ∨ b'.owes = true := by
  cases hm : a.met with
  | true => exact .inl ((hk.sess h h2).met hm)
  | false =>
    obtain ⟨x, hx, hx2⟩ := posts_unmet hm h2.a.f1 b.mine h2.b.m1
    exact .inr ((hk.swap.sess h.swap h2.swap).owes1 x hx hx2)
theorem K3.step (h : Rnd a b a' b') (h2 : Ok2 a b) (h3 : Ok2 a' b') (hk : K a b) : K3 a' b' := ⟨hk.keep h h2 h3, K3.half h h2 hk, K3.half h.swap h2.swap hk.swap⟩
theorem M.half (h : Rnd a b a' b') (h2 : Ok2 a b) (hk : K a b) (hm : a.met = true ∨ b.owes = true) : a'.met = true := by
  rcases hm with hm | hm
  · exact (hk.sess h h2).met hm
  · obtain ⟨x, hx, hx2, _⟩ := posts_owes hm
    exact (hk.sess h h2).met1 x hx (by rw [hx2]; exact hk.2)
theorem M.step (h : Rnd a b a' b') (h2 : Ok2 a b) (h3 : Ok2 a' b') (hk : K3 a b) : M a' b' := ⟨hk.1.keep h h2 h3, M.half h h2 hk.1 hk.2.1, M.half h.swap h2.swap hk.1.swap hk.2.2⟩
theorem M.keep (h : Rnd a b a' b') (h2 : Ok2 a b) (h3 : Ok2 a' b') (hk : M a b) : M a' b' := ⟨hk.1.keep h h2 h3, M.half h h2 hk.1 (.inl hk.2.1), M.half h.swap h2.swap hk.1.swap (.inl hk.2.2)⟩
theorem M.swap (h : M a b) : M b a := ⟨h.1.swap, h.2.2, h.2.1⟩
theorem Hn.half {n : Nat} (h : Rnd a b a' b') (h2 : Ok2 a b) (hk : M a b) (hw : a.wait.length ≤ 8 * (n + 1)) : H1 n a' b' := by
  have s1 := hk.1.sess h h2
  have s2 := hk.1.swap.sess h.swap h2.swap
  have h4 := s1.sum
  have h5 := s1.first
  simp only [pst] at h4 h5
  by_cases hn : a.wait.length ≤ 8 * n
  · exact .inl (by omega)
  · have hk0 : postK a = min a.wait.length 8 := by
      unfold postK
      rw [if_neg]
      have := h2.b.m1
      have := hk.1.1
      omega
    have hp : postsL a = textPs a (min a.wait.length 8) := by
      unfold postsL
      rw [hk0, if_neg (by omega)]
    have hok := h2.a.ok
    rw [hp] at s2 hok
    have ht := hear_texts (c := pst b) (b := a) (min a.wait.length 8) hok (by simp only [pst]; exact hk.1.2.symm) hk.1.1 h2.a.f1 (h2.a.sound hk.1.1 hk.1.2)
    have hb := h.b
    rw [hp] at hb
    rw [← hb] at ht
    refine .inr ⟨s2.owes1 (textP a 0) (textPs_first (by omega)) (.inl ?_), ?_⟩
    · have := h2.a.f1
      simp only [textP]; omega
    · omega
theorem Hn.step {n : Nat} (h : Rnd a b a' b') (h2 : Ok2 a b) (h3 : Ok2 a' b') (hw : Wn (n + 1) a b) : Hn n a' b' := ⟨hw.1.keep h h2 h3, Hn.half h h2 hw.1 hw.2.1, Hn.half h.swap h2.swap hw.1.swap hw.2.2⟩
theorem Wn.half {n : Nat} (h : Rnd a b a' b') (h2 : Ok2 a b) (hk : M a b) (hw : H1 n a b) : a'.wait.length ≤ 8 * n := by
  have s1 := hk.1.sess h h2
  have h4 := s1.sum
  have h5 := s1.first
  simp only [pst] at h4 h5
  rcases hw with hw | ⟨ho, hw⟩
  · omega
  · obtain ⟨x, hx, hx2, hx3⟩ := posts_owes ho
    have h6 := s1.ack x hx (by rw [hx2]; exact hk.1.2)
    simp only [pst] at h6
    omega
theorem Wn.step {n : Nat} (h : Rnd a b a' b') (h2 : Ok2 a b) (h3 : Ok2 a' b') (hw : Hn n a b) : Wn n a' b' := ⟨hw.1.keep h h2 h3, Wn.half h h2 hw.1 hw.2.1, Wn.half h.swap h2.swap hw.1.swap hw.2.2⟩
theorem Q.half (h : Rnd a b a' b') (h2 : Ok2 a b) (h3 : Ok2 a' b') (hw : Wn 0 a b) : postsL a' = [] := by
  have s1 := hw.1.1.sess h h2
  have h4 := s1.sum
  have h5 := s1.first
  have hwa := hw.2.1
  have hwb := hw.2.2
  simp only [pst] at h4 h5
  have hm := M.half h h2 hw.1.1 (.inl hw.1.2.1)
  have ho : a'.owes = false := by
    refine s1.owes0 (fun x hx => ?_) rfl
    unfold postsL at hx
    have : postK b = 0 := by unfold postK; split <;> omega
    rw [if_pos this, hw.1.2.2] at hx
    simp only [if_true, List.append_nil] at hx
    split at hx
    · rw [List.mem_singleton.1 hx]
      exact ⟨rfl, hw.1.1.2⟩
    · cases hx
  have : postK a' = 0 := by unfold postK; split <;> omega
  unfold postsL
  rw [if_pos this, hm, ho]
  rfl
theorem Q.step (h : Rnd a b a' b') (h2 : Ok2 a b) (h3 : Ok2 a' b') (hw : Wn 0 a b) : Q a' b' := ⟨Q.half h h2 h3 hw, Q.half h.swap h2.swap h3.swap ⟨hw.1.swap, hw.2.2, hw.2.1⟩⟩
/-- how far the ends are behind r rounds -/
def Ph (r : Nat) (a b : Ch) : Prop :=
  match r with
  | 0 => True
  | 1 => P1 a b
  | 2 => K a b
  | 3 => K3 a b
  | n + 4 => if n % 2 = 0 then Wn (15 - n / 2) a b else Hn (15 - (n + 1) / 2) a b
theorem Ph.step {r : Nat} (h : Rnd a b a' b') (h2 : Ok2 a b) (h3 : Ok2 a' b') (hr : r < 34) (hp : Ph r a b) : Ph (r + 1) a' b' := by
  match r, hp with
  | 0, _ => exact P1.step h h2 h3
  | 1, hp => exact K.step h h2 h3 hp
  | 2, hp => exact K3.step h h2 h3 hp
  | 3, hp =>
    have hm := M.step h h2 h3 hp
    show (if 0 % 2 = 0 then Wn (15 - 0 / 2) a' b' else Hn (15 - (0 + 1) / 2) a' b')
    exact ⟨hm, by have := h3.a.w; omega, by have := h3.b.w; omega⟩
  | n + 4, hp =>
    have hp : (if n % 2 = 0 then Wn (15 - n / 2) a b else Hn (15 - (n + 1) / 2) a b) := hp
    show (if (n + 1) % 2 = 0 then Wn (15 - (n + 1) / 2) a' b' else Hn (15 - (n + 1 + 1) / 2) a' b')
    by_cases hn : n % 2 = 0
    · rw [if_pos hn] at hp
      rw [if_neg (by omega)]
      rw [show 15 - n / 2 = (15 - (n + 1 + 1) / 2) + 1 by omega] at hp
      exact Hn.step h h2 h3 hp
    · rw [if_neg hn] at hp
      rw [if_pos (by omega)]
      exact Wn.step h h2 h3 hp
theorem Ph.quiet (h : Rnd a b a' b') (h2 : Ok2 a b) (h3 : Ok2 a' b') (hp : Ph 34 a b) : Q a' b' := Q.step h h2 h3 hp
/-- what is so where nothing is posted any more -/
theorem Q.done (hq : Q a b) (h2 : Ok2 a b) : K a b ∧ a.wait = [] ∧ b.wait = [] := by
  have key : ∀ c : Ch, postsL c = [] → postK c = 0 ∧ c.met = true := fun c hc => by
    unfold postsL at hc
    split at hc
    · rename_i h
      refine ⟨h, ?_⟩
      cases hm : c.met with
      | true => rfl
      | false => rw [hm] at hc; simp at hc
    · rename_i h
      have := congrArg List.length hc
      rw [textPs_length] at this
      exact absurd this h
  obtain ⟨h3, h4⟩ := key a hq.1
  obtain ⟨h5, h6⟩ := key b hq.2
  have g1 := h2.a.met h4
  have g2 := h2.b.met h6
  have g3 := h2.a.yb
  have g4 := h2.b.yb
  have g5 := h2.a.m1
  have g6 := h2.b.m1
  have hk : K a b := ⟨by omega, by omega⟩
  have nil : ∀ c : Ch, postK c = 0 → 1 ≤ c.yours → c.wait = [] := fun c h0 hy => by
    unfold postK at h0
    rw [if_neg (by omega)] at h0
    exact List.eq_nil_of_length_eq_zero (by omega)
  obtain ⟨k1, k2⟩ := hk
  exact ⟨⟨k1, k2⟩, nil a h3 (by omega), nil b h5 (by omega)⟩
end
end Go.Proofs.Ytpmebmbibajcoaa
