/- session: the law's turn: the invariant, and what the walk leans on: plain laws. -/
import Derived.Test.YtpmebmbibajcoaaOnceC
import Derived.Test.YtpmebmbibajcoaaOnceC1
import Derived.Test.YtpmebmbibajcoaaOnceN
set_option linter.unusedSimpArgs false
set_option linter.unusedVariables false
namespace Go.Proofs.Ytpmebmbibajcoaa
open Go.RowKit
/-- the invariant, and how long lists have grown -/
structure InvL (T : Nat) (next : Int) (d o : Side) (old : List Old) : Prop where
  i : Inv T next d o old
  way : d.way.length + o.way.length ≤ 20 * T
  olds : old.length ≤ T
  sz : ∀ e ∈ old, e.said.length ≤ T
  net : Net2 d o
theorem InvL.swap {T : Nat} {next : Int} {d o : Side} {old : List Old} (h : InvL T next d o old) : InvL T next o d old := ⟨h.i.swap, by have := h.way; omega, h.olds, h.sz, h.net.swap⟩
theorem InvL.start : InvL 0 2 (newSide 1 []) (newSide 2 []) [] := ⟨inv_start, by simp [newSide], by simp, (fun e he => by cases he), Net2.start⟩
theorem InvL.mono {T T' : Nat} {next : Int} {d o : Side} {old : List Old} (h : InvL T next d o old) (hT : T ≤ T') : InvL T' next d o old :=
  ⟨h.i.mono hT, by have := h.way; omega, Nat.le_trans h.olds hT, fun e he => Nat.le_trans (h.sz e he) hT, h.net⟩
theorem InvL.begin {T : Nat} {next : Int} {d o : Side} {old : List Old} (h : InvL T next d o old) : InvL (T + 1) (next + 1) (newSide (next + 1) d.way) o (old ++ [⟨d.c.mine, d.c.yours, d.said⟩]) :=
  ⟨inv_begin h.i, by have := h.way; simp only [newSide]; omega, by simp only [List.length_append, List.length_cons, List.length_nil]; have := h.olds; omega, (fun e he => by
    rcases List.mem_append.1 he with he | he
    · have := h.sz e he; omega
    · obtain rfl := List.mem_singleton.1 he
      have := h.i.d1.len
      simp only; omega), h.net.begin h.i⟩
theorem InvL.say {T : Nat} {next : Int} {d o : Side} {old : List Old} (h : InvL T next d o old) (t : ByteArray) : InvL (T + 1) next (saySide d t) o old :=
  ⟨inv_say h.i t, by have := h.way; simp only [saySide]; omega, by have := h.olds; omega, (fun e he => by have := h.sz e he; omega), h.net.say t⟩
theorem postsL_len8 (c : Ch) : (postsL c).length ≤ 8 := by
  unfold postsL
  split
  · rw [List.length_append]
    split <;> split <;> simp
  · rw [textPs_length]
    unfold postK
    split <;> omega
theorem InvL.posts {T : Nat} {next : Int} {d o : Side} {old : List Old} (h : InvL T next d o old) (hT : T ≤ 1000000) : InvL (T + 1) next ⟨{ d.c with owes := false }, d.said, d.heard, d.way⟩ ⟨o.c, o.said, o.heard, o.way ++ postsL d.c⟩ old :=
  ⟨inv_posts h.i hT, by have := h.way; have := postsL_len8 d.c; simp only [List.length_append]; omega, by have := h.olds; omega, (fun e he => by have := h.sz e he; omega), h.net.posts h.i⟩
theorem InvL.ways {T : Nat} {next : Int} {d o : Side} {old : List Old} (h : InvL T next d o old) (way : List Post) (hw : ∀ x ∈ way, x ∈ d.way) (hl : way.length ≤ d.way.length + 1) : InvL (T + 1) next ⟨d.c, d.said, d.heard, way⟩ o old :=
  ⟨(inv_way h.i way hw).mono (Nat.le_succ _), by have := h.way; simp only; omega, by have := h.olds; omega, (fun e he => by have := h.sz e he; omega), h.net.ways way fun x hx => h.net.a.way x (hw x hx)⟩
theorem InvL.comes {T : Nat} {next : Int} {d o : Side} {old : List Old} (h : InvL T next d o old) (x : Post) (hx : Good o old x) (hn : NetP d o x) (hle : d.c.yours ≤ x.mine) : InvL (T + 1) next (comesSide d x) o (comesOld d old x) := by
  refine ⟨(inv_comes h.i x hx hle).1, by have := h.way; simp only [comesSide]; omega, ?_, fun e he => ?_, h.net.comes h.i x hx.ok hn hle⟩
  · have := h.olds
    unfold comesOld
    split <;> simp <;> omega
  · unfold comesOld at he
    split at he
    · rcases List.mem_append.1 he with he | he
      · have := h.sz e he; omega
      · obtain rfl := List.mem_singleton.1 he
        have := h.i.d1.len
        simp only; omega
    · have := h.sz e he; omega
theorem InvL.cut {T : Nat} {next : Int} {d o : Side} {old : List Old} (h : InvL T next d o old) (way : List Post) (hw : ∀ x ∈ way, x ∈ d.way) (hl : way.length ≤ d.way.length) : InvL T next ⟨d.c, d.said, d.heard, way⟩ o old :=
  ⟨inv_way h.i way hw, by have := h.way; simp only; omega, h.olds, h.sz, h.net.ways way fun x hx => h.net.a.way x (hw x hx)⟩
/-- what the invariant bounds -/
structure Bnd (T : Nat) (d o : Side) (old : List Old) : Prop where
  d1 : 1 ≤ d.c.first ∧ d.c.first ≤ 1000000000000000
  d2 : 0 ≤ d.c.last ∧ d.c.last ≤ 1000000000000000
  d3 : d.c.wait.length ≤ 1000000
  d4 : d.said.length ≤ T
  d5 : d.heard.length ≤ T
  d6 : d.way.length + o.way.length ≤ 20 * T
  d7 : o.said.length ≤ T
  d8 : old.length ≤ T
theorem InvL.bounds {T : Nat} {next : Int} {d o : Side} {old : List Old} (h : InvL T next d o old) (hT : T ≤ 1000000 := by omega) : Bnd T d o old := by
  obtain ⟨hi, h1, h2, h3, _⟩ := h
  obtain ⟨a, ha, hb⟩ := hi.d1.wait
  have h4 := hi.d1.len
  have h5 := hi.d1.f1
  have h6 := hi.d2.last
  have h7 := hi.d1.lastT
  have h8 := congrArg List.length ha
  rw [List.length_append] at h8
  exact ⟨⟨h5, by omega⟩, ⟨by omega, by omega⟩, by omega, h4, by omega, h1, hi.o1.len, h2⟩
theorem i64_and1 (n : Int) : bits .and .i64 n 1 = n % 2 := by
  have h1 : (BitVec.ofInt 64 1).toNat = 2 ^ 1 - 1 := by decide
  have key : (BitVec.ofInt 64 n &&& BitVec.ofInt 64 1).toNat = (n % ((2 ^ 64 : Nat) : Int)).toNat % 2 ^ 1 := by
    rw [BitVec.toNat_and, BitVec.toNat_ofInt, h1, Nat.and_two_pow_sub_one_eq_mod]
  show IntKind.i64.wrap ((BitVec.ofInt 64 n &&& BitVec.ofInt 64 1).toNat : Nat) = n % 2
  rw [key, IntKind.wrap_i64]
  omega
theorem said_push {W w6 : World} {P k Bd Bo : Nat} {c : Ch} {S H : List ByteArray} {way : List Post} {o : Side} {next : Int} {old : List Old} {Nd : Nat} {a1 a2 a3 : Ad} {y : Nat × Ad × Ad × Ad} {z : Ad} {xs : List Ad} {l : List Asn} {A6 : Option Addr} {c6 : Nat} {t : ByteArray}
    (h : Own W w6 (slA 1 (.slice A6 (S.length + 1) c6) (S.length + 1) (strs S ++ [.string t]) :: (pairL P k Bd Bo ⟨c, S, H, way⟩ o next old (Nd, a1, a2, a3) y z xs l).eraseIdx 10)) :
    Own W (w6.setCell ⟨Bd, 1, none⟩ (.slice A6 (S.length + 1) c6)) (pairL P k Bd Bo ⟨c, S ++ [t], H, way⟩ o next old (Nd, (A6, c6), a2, a3) y z xs l) := by
  have O7 := Own.push (pairL P k Bd Bo ⟨c, S, H, way⟩ o next old (Nd, a1, a2, a3) y z xs l) 10 (by simp [pairL, oldsF, sideF]) h
  have O8 := O7.setCellAt 8 1 (.slice A6 (S.length + 1) c6) rfl (by simp)
  have e1 : (S ++ [t]).length = S.length + 1 := by simp
  have e2 : strs (S ++ [t]) = strs S ++ [.string t] := by simp
  simp only [pairL, oldsF, sideF, slV]
  rw [e1, e2]
  exact O8
theorem way_push {W w6 : World} {P k Bd Bo : Nat} {c : Ch} {S H : List ByteArray} {way way' : List Post} {o : Side} {next : Int} {old : List Old} {Nd : Nat} {a1 a2 a3 : Ad} {y : Nat × Ad × Ad × Ad} {z : Ad} {xs : List Ad} {l : List Asn} {A6 : Option Addr} {c6 : Nat}
    (h : Own W w6 (slA 5 (.slice A6 way'.length c6) way'.length (postCs way') :: (pairL P k Bd Bo ⟨c, S, H, way⟩ o next old (Nd, a1, a2, a3) y z xs l).eraseIdx 12)) :
    Own W (w6.setCell ⟨Bd, 3, none⟩ (.slice A6 way'.length c6)) (pairL P k Bd Bo ⟨c, S, H, way'⟩ o next old (Nd, a1, a2, (A6, c6)) y z xs l) := by
  have O7 := Own.push (pairL P k Bd Bo ⟨c, S, H, way⟩ o next old (Nd, a1, a2, a3) y z xs l) 12 (by simp [pairL, oldsF, sideF]) h
  exact O7.setCellAt 8 3 (.slice A6 way'.length c6) rfl (by simp)
set_option maxHeartbeats 2000000 in
theorem posts_push {W w6 : World} {P k Bd Bo : Nat} {c C : Ch} {S H : List ByteArray} {way : List Post} {o : Side} {next : Int} {old : List Old} {Nd No : Nat} {a1 a2 a3 b1 b2 b3 : Ad} {z : Ad} {xs : List Ad} {l : List Asn} {v : Value} {ps : List Post} {A6 : Option Addr} {c6 : Nat}
    (h : Own W w6 (slA 5 (.slice A6 (o.way.length + ps.length) c6) (o.way.length + ps.length) (postCs o.way ++ postCs ps) :: (chanA Nd C :: slA 5 v ps.length (postCs ps) :: (pairL P k Bd Bo ⟨c, S, H, way⟩ o next old (Nd, a1, a2, a3) (No, b1, b2, b3) z xs l).eraseIdx 9).eraseIdx 9)) :
    Own W (w6.setCell ⟨Bo, 3, none⟩ (.slice A6 (o.way.length + ps.length) c6)) (pairL P k Bd Bo ⟨C, S, H, way⟩ ⟨o.c, o.said, o.heard, o.way ++ ps⟩ next old (Nd, a1, a2, a3) (No, b1, b2, (A6, c6)) z xs l) := by
  have Q1 := (h.pull 2 rfl).drop
  have Q2 := (((Q1.pull 13 rfl).pull 13 rfl).pull 13 rfl).pull 13 rfl
  have Q3 := ((Q2.pull 5 rfl).pull 13 rfl).pull 6 rfl
  have Q4 := ((((((Q3.pull 13 rfl).pull 13 rfl).pull 13 rfl).pull 13 rfl).pull 13 rfl).pull 13 rfl).pull 13 rfl
  have Q5 := Q4.setCellAt 3 3 (.slice A6 (o.way.length + ps.length) c6) rfl (by simp)
  have e1 : (o.way ++ ps).length = o.way.length + ps.length := List.length_append
  have e2 : postCs (o.way ++ ps) = postCs o.way ++ postCs ps := postCs_append _ _
  simp only [pairL, oldsF, sideF, slV]
  rw [e1, e2]
  exact Q5
theorem src_of_sl {w : World} {A : Option Addr} {n c : Nat} {ps : List Post} (h : Sl w 5 (.slice A n c) n (postCs ps)) (hn : n = ps.length) : Src Try.prog 5 34 (.slice A n c) n (postCs ps) w := by
  have h1 : ∀ u ∈ postCs ps, u.oneCell' = true := fun u hu => by
    unfold postCs at hu
    obtain ⟨p, _, hp⟩ := List.mem_flatMap.1 hu
    simp only [Post.cs, List.mem_cons, List.not_mem_nil, or_false] at hp
    rcases hp with rfl | rfl | rfl | rfl | rfl <;> rfl
  rcases h.val with ⟨he, h0⟩ | ⟨g, off, cap, he, _, _, _, hc, _⟩
  · cases he
    obtain rfl : ps = [] := List.eq_nil_of_length_eq_zero (by omega)
    exact Src.ofNil w underPosts 0
  · cases he
    exact Src.ofSlice w underPosts ⟨g, off, none⟩ n c (postCs ps) (by rw [postCs_length, hn]) (fun j u hj => by
      rw [Addr.add_lit, hc j (by have := (List.getElem?_eq_some_iff.1 hj).1; rw [postCs_length, ← hn] at this; exact this)]
      exact hj) h1
theorem postCs_one (ps : List Post) : ∀ u ∈ postCs ps, u.oneCell' = true := fun u hu => by
  unfold postCs at hu
  obtain ⟨p, _, hp⟩ := List.mem_flatMap.1 hu
  simp only [Post.cs, List.mem_cons, List.not_mem_nil, or_false] at hp
  rcases hp with rfl | rfl | rfl | rfl | rfl <;> rfl
/-- posts out of the midst of a list that is held -/
theorem src_tail {w : World} {g oo n c : Nat} {ps : List Post} (h : Sl w 5 (.slice (some ⟨g, oo, none⟩) n c) n (postCs ps)) (hn : n = ps.length) (a m c' : Nat) (hm : a + m ≤ n) (oq : Nat) (hq : 0 < m → oq = oo + a * 5) : Src Try.prog 5 34 (.slice (some ⟨g, oq, none⟩) m c') m (postCs ((ps.drop a).take m)) w := by
  obtain ⟨q, hq0⟩ : ∃ q, q = (ps.drop a).take m := ⟨_, rfl⟩
  rw [← hq0]
  have hql : q.length = m := by rw [hq0, List.length_take, List.length_drop]; omega
  refine Src.ofSlice w underPosts ⟨g, oq, none⟩ m c' (postCs q) (by rw [postCs_length, hql]) (fun j u hj => ?_) (postCs_one q)
  have hjl : j < m * 5 := by have := (List.getElem?_eq_some_iff.1 hj).1; rw [postCs_length, hql] at this; exact this
  obtain rfl := hq (by omega)
  rcases h.val with ⟨he, _⟩ | ⟨g', off, cap, he, _, _, _, hc, _⟩
  · cases he
  · cases he
    rw [Addr.add_lit, Nat.add_assoc, hc (a * 5 + j) (by rw [hn] at hm ⊢; omega)]
    have hi : j / 5 < q.length := by omega
    have e1 := postCs_get q (j / 5) _ (j % 5) (List.getElem?_eq_getElem hi) (by omega)
    have hp : ps[a + j / 5]? = some q[j / 5] := by
      have h1 : q[j / 5]? = some q[j / 5] := List.getElem?_eq_getElem hi
      have h2 : q[j / 5]? = ps[a + j / 5]? := by
        conv => lhs; rw [hq0]
        rw [List.getElem?_take, if_pos (by omega), List.getElem?_drop]
      rw [← h2, h1]
    have e2 := postCs_get ps (a + j / 5) _ (j % 5) hp (by omega)
    rw [show j / 5 * 5 + j % 5 = j by omega] at e1
    rw [show (a + j / 5) * 5 + j % 5 = a * 5 + j by omega] at e2
    rw [e2, ← e1]
    exact hj
theorem src_head {w : World} {g oo n c : Nat} {ps : List Post} (h : Sl w 5 (.slice (some ⟨g, oo, none⟩) n c) n (postCs ps)) (hn : n = ps.length) (m c' : Nat) (hm : m ≤ n) : Src Try.prog 5 34 (.slice (some ⟨g, oo, none⟩) m c') m (postCs (ps.take m)) w := by
  have := src_tail h hn 0 m c' (by omega) oo (by omega)
  simpa using this
theorem Own.fresh0 {W wx : World} {l : List Asn} (size : Nat) (h : Own W wx l) (t : TypeId) {n : Nat} (hn : n = wx.heap.size) : Own W (wx.alloc (.cells #[] t)) (slA size (.slice (some ⟨n, 0, none⟩) 0 0) 0 [] :: l) := by
  subst hn
  refine h.add (Chg.of_alloc wx _ _) (A := fun k => k = wx.heap.size) ⟨fun k => ?_, ⟨by simp, .inr ⟨wx.heap.size, 0, 0, rfl, by simp, Nat.le_refl _, Nat.zero_le _, fun j hj => by omega, fun j hj => by omega⟩⟩⟩ (fun k hk => by omega)
  simp only [Value.ownBlock, Option.some.injEq]
  exact eq_comm
theorem toNat_succ (m : Nat) : ((m : Int) + 1).toNat = m + 1 := by omega
theorem zero_le_succ (m : Nat) : (0 : Int) ≤ (m : Int) + 1 := by omega
theorem le_succ_i (m : Nat) : (m : Int) ≤ (m : Int) + 1 := by omega
theorem remN (n : Int) (m : Nat) (hm : 0 < m) (hm2 : m ≤ 1000000) : ∃ (t : Int) (k : Nat), n.tmod m = t ∧ wrap64 (t + m) = t + m ∧ IntKind.i64.wrap (t + m) = t + m ∧ (t + m).tmod m = (k : Int) ∧ k < m ∧ -(m : Int) < t ∧ t < m := by
  have h1 := Int.emod_nonneg n (show (m : Int) ≠ 0 by omega)
  have h2 := Int.tmod_lt_of_pos n (show (0 : Int) < m by omega)
  have h3 : -(m : Int) < n.tmod m := by
    have := Int.tmod_lt_of_pos (-n) (show (0 : Int) < m by omega)
    rw [Int.neg_tmod] at this
    omega
  have h4 : 0 ≤ (n.tmod m + m) % m := Int.emod_nonneg _ (by omega)
  have h5 : (n.tmod m + m) % m < m := Int.emod_lt_of_pos _ (by omega)
  refine ⟨n.tmod m, ((n.tmod m + m) % m).toNat, rfl, w64_id (by omega) (by omega), wrap_id (by omega) (by omega), ?_, by omega, h3, h2⟩
  rw [Int.tmod_eq_emod_of_nonneg (by omega)]
  omega
def TurnO (W : World) (P k T : Nat) (l : List Asn) (e : Ending) (w' : World) : Prop := e = .returned (.bool true) ∧ ∃ d o next old, InvL T next d o old ∧ Own W w' (pairA P k d o next old :: l)
end Go.Proofs.Ytpmebmbibajcoaa
