/- Plain laws and walks: NetD, Net, NetS, NetT. -/
import Derived.Test.YthmfmpkkbgapoaaChecked
import Derived.Test.YthmfmpkkbgapoaaGa
import Derived.Test.YthmfmpkkbgapoaaGd
import Derived.Deep.RegionHeld3
import Derived.Deep.RegionLaw
import Derived.Lib.SliceRun
import Derived.Deep.DeepCutAuto
import Derived.Deep.CutBlock
-- NetD
/- net: packets as cells; slices.Delete at packets: the walk. -/
set_option linter.unusedSimpArgs false
set_option linter.unusedVariables false
namespace Go.Proofs.Ythmfmpkkbgapoaa
open Go.RowKit
/-- a packet -/
structure Pk where
  f : Int
  t : Int
  s : ByteArray
def Pk.cs (p : Pk) : List Value := [.int .i64 p.f, .int .i64 p.t, .string p.s]
def Pk.v (p : Pk) : Value := .agg #[.int .i64 p.f, .int .i64 p.t, .string p.s]
def pksC : List Pk → List Value
  | [] => []
  | p :: l => p.cs ++ pksC l
theorem pksC_len : ∀ l : List Pk, (pksC l).length = l.length * 3
  | [] => rfl
  | p :: l => by rw [pksC, List.length_append, pksC_len l, List.length_cons, Nat.add_mul]; simp [Pk.cs]; omega
theorem pksC_append : ∀ l m : List Pk, pksC (l ++ m) = pksC l ++ pksC m
  | [], m => rfl
  | p :: l, m => by rw [List.cons_append, pksC, pksC_append l m, pksC, List.append_assoc]
theorem pksC_one : ∀ (l : List Pk), ∀ u ∈ pksC l, u.oneCell' = true
  | [], u, h => by cases h
  | p :: l, u, h => by
    rw [pksC, List.mem_append] at h
    rcases h with h | h
    · simp [Pk.cs] at h
      rcases h with rfl | rfl | rfl <;> rfl
    · exact pksC_one l u h
theorem pksC_drop (l : List Pk) (k : Nat) : (pksC l).drop (k * 3) = pksC (l.drop k) := by
  by_cases h : k ≤ l.length
  · have e := pksC_append (l.take k) (l.drop k)
    rw [List.take_append_drop] at e
    rw [e, List.drop_append_of_le_length (by rw [pksC_len, List.length_take]; omega), List.drop_of_length_le (by rw [pksC_len, List.length_take]; omega), List.nil_append]
  · rw [List.drop_of_length_le (by rw [pksC_len]; omega), List.drop_of_length_le (by omega)]
    rfl
theorem pksC_take (l : List Pk) (k : Nat) : (pksC l).take (k * 3) = pksC (l.take k) := by
  by_cases h : k ≤ l.length
  · have e := pksC_append (l.take k) (l.drop k)
    rw [List.take_append_drop] at e
    rw [e, List.take_append_of_le_length (by rw [pksC_len, List.length_take]; omega), List.take_of_length_le (by rw [pksC_len, List.length_take]; omega)]
  · rw [List.take_of_length_le (by rw [pksC_len]; omega), List.take_of_length_le (by omega)]
theorem pksC_get {l : List Pk} {k : Nat} {p : Pk} (h : l[k]? = some p) (j : Nat) (hj : j < 3) : (pksC l)[k * 3 + j]? = p.cs[j]? := by
  have e := pksC_drop l k
  have hd : l.drop k = p :: l.drop (k + 1) := by
    have hl := (List.getElem?_eq_some_iff.1 h)
    rw [List.drop_eq_getElem_cons hl.1, hl.2]
  rw [← List.getElem?_drop, e, hd, pksC, List.getElem?_append_left (by simp [Pk.cs]; omega)]
/-- clear of one element -/
theorem run_clear_one {P : Program} (w : World) (t e ty : TypeId) (z : Value) (zs : List Value) (ht : P.underlying t = some (.slice e)) (hv : ∀ w, (zeroValue e).run P w = .ok z w) (hz : (Builtin.zeroCells z.cells 1).toList = zs) (h1 : ∀ u ∈ zs, u.oneCell' = true) (b o c : Nat)
    (hc : ∀ j, j < zs.length → (w.cell? ⟨b, o + j, none⟩).isSome = true) (hf : ∀ j, j < zs.length → w.frozen? ⟨b, o + j, none⟩ = false) :
    (Builtin.clear_ #[t] ty #[.slice (some ⟨b, o, none⟩) 1 c]).run P w = .ok (.tuple #[]) (w.setCells b o zs) := by
  have hst := run_storeCells_cells (P := P) b o zs 0 w (by simpa using hc) (by simpa using hf) h1
  simp only [Nat.add_zero] at hst
  simp [Builtin.clear_, run_underlying ht, hv, hz, hst]
abbrev z3 : List Value := [.int .i64 0, .int .i64 0, .string .empty]
theorem zero_pk (w : World) : (zeroValue 48).run Try.prog w = .ok (.agg #[.int .i64 0, .int .i64 0, .string .empty]) w := Try.zeroValue48 w
set_option maxHeartbeats 4000000 in
theorem delete_any {w : World} {g off n cap : Nat} {cs : List Value} (hs : Sl w 3 (.slice (some ⟨g, off, none⟩) n cap) n cs) (h1 : ∀ u ∈ cs, u.oneCell' = true) (k : Nat) (hk : k < n) :
    Calls Try.prog 36 #[.slice (some ⟨g, off, none⟩) n cap, .int .i64 (k : Int), .int .i64 ((k + 1 : Nat) : Int)] w fun e w' =>
      e = .returned (.slice (some ⟨g, off, none⟩) (n - 1) cap) ∧ w' = (w.drew.setCells g (off + k * 3) (cs.drop ((k + 1) * 3))).setCells g (off + (n - 1) * 3) z3 := by
  have hlc := hs.len
  rcases hs.val with ⟨he, _⟩ | ⟨g', off', cap', he, hgl, hcn, hm, hcl, hfz⟩
  · cases he
  cases he
  simp only [maxLen] at hm
  obtain ⟨news, hnews⟩ : ∃ news, news = cs.drop ((k + 1) * 3) := ⟨_, rfl⟩
  rw [← hnews]
  have hlen : news.length = (n - (k + 1)) * 3 := by rw [hnews, List.length_drop, hlc, Nat.sub_mul]
  obtain ⟨A, hA, hsrc⟩ : ∃ A : Addr, (if cap = k + 1 then some (⟨g, off, none⟩ : Addr) else some ⟨g, off + (k + 1) * 3, none⟩) = some A ∧ Hid (∀ t u, news[t]? = some u → w.drew.cell? (A.add t) = some u) := by
    by_cases h : cap = k + 1
    · refine ⟨⟨g, off, none⟩, by simp [h], fun t u hu => ?_⟩
      have h0 : news.length = 0 := by rw [hlen]; omega
      rw [List.length_eq_zero_iff.1 h0] at hu
      simp at hu
    · refine ⟨⟨g, off + (k + 1) * 3, none⟩, by simp [h], fun t u hu => ?_⟩
      have ht : t < (n - (k + 1)) * 3 := by
        have := (List.getElem?_eq_some_iff.1 hu).1
        rwa [hlen] at this
      rw [hnews, List.getElem?_drop] at hu
      rw [Addr.add_lit, Nat.add_assoc, World.cell?_drew, hcl _ (by omega)]
      exact hu
  have s1 : Hid (news.length = (n - (k + 1)) * 3) := hlen
  have s2 : Hid (∀ u ∈ news, u.oneCell' = true) := fun u hu => h1 u (List.mem_of_mem_drop (by rw [← hnews]; exact hu))
  have s3 : Hid (∀ t, t < news.length → (w.drew.cell? ⟨g, off + k * 3 + t, none⟩).isSome = true ∧ w.drew.frozen? ⟨g, off + k * 3 + t, none⟩ = false) := fun t ht => by
    rw [hlen] at ht
    rw [Nat.add_assoc]
    exact hfz _ (by omega)
  obtain ⟨W1, hW1⟩ : ∃ W1, W1 = w.drew.setCells g (off + k * 3) news := ⟨_, rfl⟩
  have hcl1 : ∀ ty, (Builtin.clear_ #[83] ty #[.slice (some ⟨g, off + (n - 1) * 3, none⟩) 1 (cap - (n - 1))]).run Try.prog W1 = .ok (.tuple #[]) (W1.setCells g (off + (n - 1) * 3) z3) := by
    intro ty
    have hall : ∀ j, j < cap * 3 → (W1.cell? ⟨g, off + j, none⟩).isSome = true ∧ W1.frozen? ⟨g, off + j, none⟩ = false := by
      intro j hj
      rw [hW1]
      refine ⟨?_, by rw [World.frozen?_setCells]; exact (hfz j hj).2⟩
      by_cases hj2 : off + k * 3 ≤ off + j ∧ off + j < off + k * 3 + news.length
      · have := World.cell?_setCells_in g news (off + k * 3) w.drew (fun t ht => (s3.out t ht).1) (j - k * 3) (by omega)
        rw [show off + k * 3 + (j - k * 3) = off + j by omega] at this
        rw [this]
        rfl
      · rw [World.cell?_setCells_out g _ _ _ _ (fun _ _ => by show off + j < off + k * 3 ∨ off + k * 3 + news.length ≤ off + j; omega)]
        exact (hfz j hj).1
    refine run_clear_one W1 _ 48 ty _ z3 (by kernel_rfl) zero_pk (by simp [Builtin.zeroCells, Value.cells, List.range, List.range.loop]) (by decide) g _ _ (fun j hj => ?_) (fun j hj => ?_)
    · rw [Nat.add_assoc]; exact (hall _ (by simp at hj; omega)).1
    · rw [Nat.add_assoc]; exact (hall _ (by simp at hj; omega)).2
  have hW : Hid (W1 = w.drew.setCells g (off + k * 3) news) := hW1
  rw [← hW1]
  have hkn : ¬ k = k + 1 := by omega
  have hkc : k ≤ cap := by omega
  have hjc : k + 1 ≤ cap := by omega
  have e1 : (0 : Int) ≤ (k : Int) + 1 := by omega
  have e2 : (k : Int) + 1 ≤ (n : Int) := by omega
  clear hW1 hcl hfz hnews hlen h1 hlc hs
  go_enter Try.func36, Try.ntmps36
  go_wp2_with fail
  go_region_law (refine step_append_room rfl (.tmp 22) (.tmp 25) 83 rfl 48 Try.t48 3 (by kernel_rfl) (by kernel_rfl) (by kernel_rfl) g off k cap (by simp [Act.eval, Act.put]) A (n - (k + 1)) (cap - (k + 1)) news (by simp [Act.eval, Act.put]) s1.out hsrc.out s2.out (by omega) s3.out ?_; rw [← hW.out])
  have hkk : k + (n - (k + 1)) = n - 1 := by omega
  have hk1 : n - (n - 1) = 1 := by omega
  simp only [hkk]
  go_wp2_with fail
  go_ret
  exact ⟨rfl, rfl⟩
theorem delete_cells {w : World} {g off n cap k : Nat} {cs : List Value} (hs : Sl w 3 (.slice (some ⟨g, off, none⟩) n cap) n cs) (hk : k < n) :
    Sl ((w.drew.setCells g (off + k * 3) (cs.drop ((k + 1) * 3))).setCells g (off + (n - 1) * 3) z3) 3 (.slice (some ⟨g, off, none⟩) (n - 1) cap) (n - 1) (cs.take (k * 3) ++ cs.drop ((k + 1) * 3)) := by
  have hlc := hs.len
  rcases hs.val with ⟨he, _⟩ | ⟨g', off', cap', he, hgl, hcn, hm, hcl, hfz⟩
  · cases he
  cases he
  have hd : (cs.drop ((k + 1) * 3)).length = (n - (k + 1)) * 3 := by rw [List.length_drop, hlc, Nat.sub_mul]
  have hz : z3.length = 3 := rfl
  have ha : ∀ j, j < cap * 3 → ((w.drew.setCells g (off + k * 3) (cs.drop ((k + 1) * 3))).cell? ⟨g, off + j, none⟩).isSome = true := by
    intro j hj
    by_cases hj2 : off + k * 3 ≤ off + j ∧ off + j < off + k * 3 + (cs.drop ((k + 1) * 3)).length
    · have := World.cell?_setCells_in g (cs.drop ((k + 1) * 3)) (off + k * 3) w.drew (fun t ht => by rw [Nat.add_assoc]; exact (hfz _ (by omega)).1) (j - k * 3) (by omega)
      rw [show off + k * 3 + (j - k * 3) = off + j by omega] at this
      rw [this]
      rfl
    · rw [World.cell?_setCells_out g _ _ _ _ (fun _ _ => by show off + j < off + k * 3 ∨ off + k * 3 + _ ≤ off + j; omega)]
      exact (hfz j hj).1
  refine ⟨by rw [List.length_append, List.length_take, hd, hlc]; omega, .inr ⟨g, off, cap, rfl, ?_, by omega, hm, fun j hj => ?_, fun j hj => ⟨?_, ?_⟩⟩⟩
  · exact Nat.lt_of_lt_of_le hgl (((Chg.of_drew w (fun k => k = g)).trans (Chg.of_setCells g _ _ _) fun _ h _ => h).trans (Chg.of_setCells g _ _ _) fun _ h _ => h).size
  · rw [World.cell?_setCells_out g _ _ _ _ (fun _ _ => Or.inl (by show off + j < off + (n - 1) * 3; omega))]
    by_cases hj2 : j < k * 3
    · rw [World.cell?_setCells_out g _ _ _ _ (fun _ _ => Or.inl (by show off + j < off + k * 3; omega)), List.getElem?_append_left (by rw [List.length_take]; omega), List.getElem?_take_of_lt hj2]
      exact hcl j (by omega)
    · have hj3 : j - k * 3 < (cs.drop ((k + 1) * 3)).length := by omega
      have := World.cell?_setCells_in g (cs.drop ((k + 1) * 3)) (off + k * 3) w.drew (fun t ht => by rw [Nat.add_assoc]; exact (hfz _ (by omega)).1) (j - k * 3) hj3
      rw [show off + k * 3 + (j - k * 3) = off + j by omega] at this
      rw [this, List.getElem?_append_right (by rw [List.length_take]; omega), List.length_take, show j - min (k * 3) cs.length = j - k * 3 by omega, List.getElem?_eq_getElem hj3]
  · by_cases hj2 : off + (n - 1) * 3 ≤ off + j ∧ off + j < off + (n - 1) * 3 + z3.length
    · have := World.cell?_setCells_in g z3 (off + (n - 1) * 3) _ (fun t ht => by rw [Nat.add_assoc]; exact ha _ (by omega)) (j - (n - 1) * 3) (by omega)
      rw [show off + (n - 1) * 3 + (j - (n - 1) * 3) = off + j by omega] at this
      rw [this]
      rfl
    · rw [World.cell?_setCells_out g _ _ _ _ (fun _ _ => by show off + j < off + (n - 1) * 3 ∨ off + (n - 1) * 3 + _ ≤ off + j; omega)]
      exact ha j hj
  · rw [World.frozen?_setCells, World.frozen?_setCells]
    exact (hfz j hj).2
theorem delete_O {W wx : World} {r : List Asn} {v : Value} {l : List Pk} (h : Own W wx (slA 3 v l.length (pksC l) :: r)) (k : Nat) (hk : k < l.length) :
    Calls Try.prog 36 #[v, .int .i64 (k : Int), .int .i64 ((k : Int) + 1)] wx fun e w' =>
      ∃ v', e = .returned v' ∧ Own W w' (slA 3 v' (l.eraseIdx k).length (pksC (l.eraseIdx k)) :: r) := by
  have hs := h.sl 0 rfl
  have ek : (k : Int) + 1 = ((k + 1 : Nat) : Int) := by omega
  rw [ek]
  rcases hs.val with ⟨he, h0⟩ | ⟨g, off, cap, he, _⟩
  · omega
  subst he
  have hl : (l.eraseIdx k).length = l.length - 1 := by rw [List.length_eraseIdx, if_pos hk]
  refine (delete_any hs (pksC_one l) k hk).mono ?_
  rintro e w' ⟨rfl, rfl⟩
  have hsl := delete_cells hs hk
  rw [pksC_drop, pksC_take, ← pksC_append, ← List.eraseIdx_eq_take_drop_succ] at hsl
  rw [hl]
  refine ⟨_, rfl, Own.step (A := fun _ => False) h fun A hA => ⟨A, ?_, ⟨fun k => (hA.1 k).trans Iff.rfl, ?_⟩, fun k a => .inl a⟩⟩
  · exact (((Chg.of_drew wx (fun k => k = g)).trans (Chg.of_setCells g _ _ _) fun _ h _ => h).trans (Chg.of_setCells g _ _ _) fun _ h _ => h).mono fun k hk => (hA.1 k).2 (by subst hk; rfl)
  · rw [pksC_drop]; exact hsl
end Go.Proofs.Ythmfmpkkbgapoaa
-- Net
/- net: the net as an assertion; New, Len, at, Take, Double: walks. -/
set_option linter.unusedSimpArgs false
set_option linter.unusedVariables false
namespace Go.Proofs.Ythmfmpkkbgapoaa
open Go.RowKit
abbrev ptV (X : Nat) : Value := .pointer (some ⟨X, 0, none⟩)
/-- a net of two nodes, as an assertion -/
def netA (X : Nat) (l : List Pk) : Asn := exA fun v : Value => [cellsA X [.int .i64 2, v], slA 3 v l.length (pksC l)]
section
variable {W wx : World} {r : List Asn} {X : Nat} {l : List Pk}
theorem netNew_O (h : Own W wx r) : Calls Try.prog 16 #[.int .i64 2] wx fun e w' => ∃ X, e = .returned (.tuple #[ptV X, .int .i64 0]) ∧ Own W w' (netA X [] :: r) := by
  have O1 := (h.newCells [.int .i64 2, .slice none 0 0] 85)
  have O2 : Own W _ (netA wx.heap.size [] :: r) := Own.mk (fun v : Value => [cellsA wx.heap.size [.int .i64 2, v], slA 3 v 0 (pksC [])]) (.slice none 0 0) (Own.rot1 (O1.add (Chg.refl _ _) (Q := slA 3 (.slice none 0 0) 0 []) (A := fun _ => False) ⟨fun k => ⟨fun h => h.elim, fun h => by cases h⟩, Sl.nil _ _⟩ (fun k h => h.elim)))
  replace O2 := Lib.hid O2
  clear O1 h
  go_enter Try.func16, Try.ntmps16
  go_wp2_with fail
  go_ret2
  exact ⟨_, rfl, O2.out⟩
theorem netLen_O (h : Own W wx (netA X l :: r)) : Calls Try.prog 7 #[ptV X] wx fun e w' => e = .returned (.int .i64 (l.length : Int)) ∧ wx.Plus w' := by
  obtain ⟨v, O⟩ := h.ex
  obtain ⟨lX, qX, fX⟩ := O.cells 0 rfl
  obtain ⟨A, c, rfl⟩ := (O.sl 1 rfl).shape
  have c1 := qX 1 (by simp)
  simp only [List.getElem?_cons_succ, List.getElem?_cons_zero] at c1
  haveI : InW X wx := ⟨lX⟩
  clear qX fX lX O h
  go_enter Try.func7, Try.ntmps7
  go_wp2_with fail
  go_ret
  exact ⟨rfl, by (repeat (first | exact Plus.refl _ | apply Plus.plus | apply Plus.alloc | apply Plus.drew))⟩
theorem netAt_O (h : Own W wx (netA X l :: r)) (k : Nat) (hk : k < l.length) : Calls Try.prog 35 #[ptV X, .int .i64 (k : Int)] wx fun e w' => e = .returned (.bool true) ∧ wx.Plus w' := by
  obtain ⟨v, O⟩ := h.ex
  obtain ⟨lX, qX, fX⟩ := O.cells 0 rfl
  obtain ⟨A, c, rfl⟩ := (O.sl 1 rfl).shape
  have c1 := qX 1 (by simp)
  simp only [List.getElem?_cons_succ, List.getElem?_cons_zero] at c1
  haveI : InW X wx := ⟨lX⟩
  clear qX fX lX O h
  have e1 : (0 : Int) ≤ (k : Int) := by omega
  have e2 : (k : Int) < (l.length : Int) := by omega
  go_enter Try.func35, Try.ntmps35
  go_wp2_with fail
  go_ret
  exact ⟨rfl, by (repeat (first | exact Plus.refl _ | apply Plus.plus | apply Plus.alloc | apply Plus.drew))⟩
set_option maxHeartbeats 1000000 in
theorem netTake_O (h : Own W wx (netA X l :: r)) (k : Nat) (p : Pk) (hp : l[k]? = some p) (hl : l.length ≤ 100000) : Calls Try.prog 11 #[ptV X, .int .i64 (k : Int)] wx fun e w' => e = .returned (.tuple #[p.v, .int .i64 0]) ∧ Own W w' (netA X (l.eraseIdx k) :: r) := by
  have hk : k < l.length := (List.getElem?_eq_some_iff.1 hp).1
  go_enter Try.func11, Try.ntmps11
  go_upto_region 1 with fail
  have O1 : Own W (wx.alloc (.cells #[.int .i64 0, .int .i64 0, .string ⟨#[]⟩] 48)) (cellsA wx.heap.size [.int .i64 0, .int .i64 0, .string ⟨#[]⟩] :: netA X l :: r) := h.newCells _ _
  clear h
  generalize wx.heap.size = R at *
  generalize wx.alloc _ = w1 at *
  have kA := Lib.hid (netAt_O O1.rot1 k hk)
  replace O1 := Lib.hid O1
  go_upto_region 3 with (go_at_call 35; (with_reducible refine kA.out.mono ?_); rintro e w' ⟨rfl, e0, rfl⟩)
  clear kA
  have O2 := (O1.out.plus e0).rot1
  clear O1
  generalize w1.plus e0 = w2 at *
  clear w1
  obtain ⟨v, O2⟩ := O2.ex
  obtain ⟨A, c, rfl⟩ := (O2.sl 1 rfl).shape
  obtain ⟨g, o, rfl, hg, hc⟩ := (O2.sl 1 rfl).cellsOf (by omega)
  have d0 := (hc (k * 3 + 0) (by omega)).trans (pksC_get hp 0 (by omega))
  have d1 := (hc (k * 3 + 1) (by omega)).trans (pksC_get hp 1 (by omega))
  have d2 := (hc (k * 3 + 2) (by omega)).trans (pksC_get hp 2 (by omega))
  simp only [Pk.cs, List.getElem?_cons_succ, List.getElem?_cons_zero, Nat.add_zero, ← Nat.add_assoc] at d0 d1 d2
  obtain ⟨lX, qX, fX⟩ := O2.cells 0 rfl
  have c1 := qX 1 (by simp)
  simp only [List.getElem?_cons_succ, List.getElem?_cons_zero] at c1
  haveI : InW X w2 := ⟨lX⟩
  haveI : InW g w2 := ⟨hg⟩
  clear qX fX lX hc
  have e1 : (0 : Int) ≤ (k : Int) := by omega
  have e2 : (k : Int) < (l.length : Int) := by omega
  have e3 : wrap64 ((k : Int) + 1) = (k : Int) + 1 := by unfold wrap64; omega
  replace O2 := Lib.hid O2
  go_upto_region 4 with fail
  have O3 : Own W (w2.alloc (.cells #[.int .i64 p.f, .int .i64 p.t, .string p.s] 48)) _ := O2.out.newCells [.int .i64 p.f, .int .i64 p.t, .string p.s] _
  clear O2 d0 d1 d2 c1
  generalize w2.heap.size = Q at *
  generalize w2.alloc _ = w3 at *
  replace O3 := O3.rot2
  obtain ⟨lX, qX, fX⟩ := O3.cells 2 rfl
  have c1 := qX 1 (by simp)
  simp only [List.getElem?_cons_succ, List.getElem?_cons_zero] at c1
  haveI : InW X w3 := ⟨lX⟩
  clear qX fX lX
  have kD := Lib.hid (delete_O O3 k hk)
  clear O3
  go_upto_region 5 with (go_at_call 36; (with_reducible refine kD.out.mono ?_); rintro e w4 ⟨v', rfl, O4⟩; obtain ⟨A4, c5, rfl⟩ := (O4.sl 0 rfl).shape; obtain ⟨lX, qX, fX⟩ := O4.cells 2 rfl; have c4 := qX 1 (by simp); have f4 := fX 1; simp only [List.getElem?_cons_succ, List.getElem?_cons_zero] at c4; haveI : InW X w4 := ⟨lX⟩; clear qX fX lX; replace O4 := Lib.hid O4)
  clear kD c1
  have O5 := O4.out.setCellAt 2 1 (.slice A4 (l.eraseIdx k).length c5) rfl (by simp)
  clear O4 c4 f4
  generalize w4.setCell _ _ = w5 at *
  simp only [List.set_cons_succ, List.set_cons_zero] at O5
  obtain ⟨lQ, qQ, fQ⟩ := O5.cells 1 rfl
  obtain ⟨lR, qR, fR⟩ := O5.cells 3 rfl
  have q0 := qQ 0 (by simp)
  have q1 := qQ 1 (by simp)
  have q2 := qQ 2 (by simp)
  have r0 := qR 0 (by simp)
  have r1 := qR 1 (by simp)
  have r2 := qR 2 (by simp)
  have g0 := fR 0
  have g1 := fR 1
  have g2 := fR 2
  simp only [List.getElem?_cons_succ, List.getElem?_cons_zero] at q0 q1 q2 r0 r1 r2
  haveI : InW Q w5 := ⟨lQ⟩
  haveI : InW R w5 := ⟨lR⟩
  clear qQ fQ lQ qR fR lR
  replace O5 := Lib.hid O5
  go_wp2_with fail
  have O6 := ((O5.out.setCellAt 3 0 (.int .i64 p.f) rfl (by simp)).setCellAt 3 1 (.int .i64 p.t) rfl (by simp)).setCellAt 3 2 (.string p.s) rfl (by simp)
  simp only [List.set_cons_succ, List.set_cons_zero] at O6
  clear O5 q0 q1 q2 r0 r1 r2 g0 g1 g2
  generalize World.setCell _ _ _ = w6 at *
  obtain ⟨lR, qR, fR⟩ := O6.cells 3 rfl
  have r0 := qR 0 (by simp)
  have r1 := qR 1 (by simp)
  have r2 := qR 2 (by simp)
  simp only [List.getElem?_cons_succ, List.getElem?_cons_zero] at r0 r1 r2
  have O7 : Own W w6 (netA X (l.eraseIdx k) :: r) := Own.mk (fun v : Value => [cellsA X [.int .i64 2, v], slA 3 v (l.eraseIdx k).length (pksC (l.eraseIdx k))]) _ O6.rot1.drop.rot2.drop.rot1
  exact bodyPost_ret (v := .tuple #[p.v, .int .i64 0]) (by simp [results, Try.results11, go_sem, r0, r1, r2, Pk.v]) rfl ⟨rfl, O7⟩
theorem src_pk (w : World) (B : Nat) (p : Pk) (h0 : w.cell? ⟨B, 0, none⟩ = some (.int .i64 p.f)) (h1 : w.cell? ⟨B, 1, none⟩ = some (.int .i64 p.t)) (h2 : w.cell? ⟨B, 2, none⟩ = some (.string p.s)) : Src Try.prog 3 83 (.slice (some ⟨B, 0, none⟩) 1 1) 1 p.cs w :=
  Src.ofCells (e := 48) (by kernel_rfl) w p.cs rfl (fun j hj => by
    match j, hj with
    | 0, _ => exact h0
    | 1, _ => exact h1
    | 2, _ => exact h2) (fun u hu => by simp [Pk.cs] at hu; rcases hu with rfl | rfl | rfl <;> rfl) 1
theorem pksC_snoc (l : List Pk) (p : Pk) : pksC l ++ p.cs = pksC (l ++ [p]) := by rw [pksC_append]; simp [pksC]
set_option maxHeartbeats 1000000 in
theorem netDouble_O (h : Own W wx (netA X l :: r)) (k : Nat) (p : Pk) (hp : l[k]? = some p) (hl : l.length < 4096) : Calls Try.prog 12 #[ptV X, .int .i64 (k : Int)] wx fun e w' => e = .returned (.int .i64 0) ∧ Own W w' (netA X (l ++ [p]) :: r) := by
  have hk : k < l.length := (List.getElem?_eq_some_iff.1 hp).1
  have kA := Lib.hid (netAt_O h k hk)
  replace h := Lib.hid h
  go_enter Try.func12, Try.ntmps12
  go_upto_region 3 with (go_at_call 35; (with_reducible refine kA.out.mono ?_); rintro e w' ⟨rfl, e0, rfl⟩)
  clear kA
  have O2 := h.out.plus e0
  clear h
  generalize wx.plus e0 = w2 at *
  obtain ⟨v, O2⟩ := O2.ex
  obtain ⟨A, c, rfl⟩ := (O2.sl 1 rfl).shape
  obtain ⟨g, o, rfl, hg, hc⟩ := (O2.sl 1 rfl).cellsOf (by omega)
  have d0 := (hc (k * 3 + 0) (by omega)).trans (pksC_get hp 0 (by omega))
  have d1 := (hc (k * 3 + 1) (by omega)).trans (pksC_get hp 1 (by omega))
  have d2 := (hc (k * 3 + 2) (by omega)).trans (pksC_get hp 2 (by omega))
  simp only [Pk.cs, List.getElem?_cons_succ, List.getElem?_cons_zero, Nat.add_zero, ← Nat.add_assoc] at d0 d1 d2
  obtain ⟨lX, qX, fX⟩ := O2.cells 0 rfl
  have c1 := qX 1 (by simp)
  simp only [List.getElem?_cons_succ, List.getElem?_cons_zero] at c1
  haveI : InW X w2 := ⟨lX⟩
  haveI : InW g w2 := ⟨hg⟩
  clear qX fX lX hc
  have e1 : (0 : Int) ≤ (k : Int) := by omega
  have e2 : (k : Int) < (l.length : Int) := by omega
  have e4 : ¬ (4096 : Int) ≤ (l.length : Int) := by omega
  have OP := Lib.hid (fun (wz : World) (p : w2.Plus wz) => (by
    obtain ⟨e, rfl⟩ := p
    exact (O2.plus e).rot1 : Own W wz (slA 3 (.slice (some ⟨g, o, none⟩) l.length c) l.length (pksC l) :: cellsA X [.int .i64 2, .slice (some ⟨g, o, none⟩) l.length c] :: r)))
  clear O2
  go_upto_region 5 with fail
  go_cut [] (fun wz => Own W wz (netA X (l ++ [p]) :: r))
  case first =>
    go_region_law ((go_loud (refine step_append_O (by rfl) _ _ 83 83 (by rfl) 48 Try.t48 (.agg #[.int .i64 0, .int .i64 0, .string ⟨#[]⟩]) 3 32 (by kernel_rfl) (by kernel_rfl) (by kernel_rfl) (by kernel_rfl) (by kernel_rfl) rfl (by rfl) (OP.out _ (by (repeat (first | exact Plus.refl _ | apply Plus.plus | apply Plus.alloc | apply Plus.drew)))) (xv := .slice (some ⟨_, 0, none⟩) 1 1) (by rfl) (src_pk _ _ p (by simp [go_sem]) (by simp [go_sem]) (by simp [go_sem])) (by unfold maxLen; first | omega | (simp only; omega)) (by first | omega | (simp only; omega)) ?_); intro A6 c6 w6 O6; obtain ⟨lB6, qB6, fB6⟩ := O6.cells 1 rfl; have b16 := qB6 1 (by simp); simp only [List.getElem?_cons_succ, List.getElem?_cons_zero] at b16; have fb16 := fB6 1; haveI : InW X w6 := ⟨lB6⟩; clear qB6 fB6))
    all_goals
      have O7 := O6.setCellAt 1 1 (.slice A6 (l.length + 1) c6) rfl (by simp)
      simp only [List.set_cons_succ, List.set_cons_zero] at O7
      have O8 : Own W _ (netA X (l ++ [p]) :: r) := Own.mk (fun v : Value => [cellsA X [.int .i64 2, v], slA 3 v (l ++ [p]).length (pksC (l ++ [p]))]) (.slice A6 (l.length + 1) c6) (by rw [← pksC_snoc, List.length_append]; exact O7.rot1)
      replace O8 := Lib.hid O8
      clear O6 O7 b16 fb16 lB6
      go_wp2_with fail
      go_meet
      exact O8.out
  replace hcut := Lib.hid hcut
  go_wp2_with fail
  go_ret
  exact ⟨rfl, hcut.out⟩
end
end Go.Proofs.Ythmfmpkkbgapoaa
-- NetS
/- net: node, wrong, ContainsFunc at a packet, Send of a packet: walks. -/
set_option linter.unusedSimpArgs false
set_option linter.unusedVariables false
namespace Go.Proofs.Ythmfmpkkbgapoaa
open Go.RowKit
structure Pk.Ok (p : Pk) : Prop where
  f : 0 ≤ p.f ∧ p.f < 2
  t : 0 ≤ p.t ∧ p.t < 2
  ne : p.f ≠ p.t
  s : p.s.size ≤ 65536
section
variable {W wx : World} {r : List Asn} {X : Nat} {l : List Pk}
theorem netNode_O (h : Own W wx (netA X l :: r)) (k : Int) (hk : 0 ≤ k ∧ k < 2) : Calls Try.prog 75 #[ptV X, .int .i64 k] wx fun e w' => e = .returned (.bool true) ∧ wx.Plus w' := by
  obtain ⟨v, O⟩ := h.ex
  obtain ⟨lX, qX, fX⟩ := O.cells 0 rfl
  have c0 := qX 0 (by simp)
  simp only [List.getElem?_cons_succ, List.getElem?_cons_zero] at c0
  haveI : InW X wx := ⟨lX⟩
  clear qX fX lX O h
  obtain ⟨h1, h2⟩ := hk
  go_enter Try.func75, Try.ntmps75
  go_wp2_with fail
  go_ret
  exact ⟨rfl, by (repeat (first | exact Plus.refl _ | apply Plus.plus | apply Plus.alloc | apply Plus.drew))⟩
theorem netWrong_O (h : Own W wx (netA X l :: r)) (p : Pk) (hp : p.Ok) : Calls Try.prog 55 #[ptV X, p.v] wx fun e w' => e = .returned (.bool false) ∧ wx.Plus w' := by
  have kF := Lib.hid (fun (wz : World) (q : wx.Plus wz) => (by obtain ⟨e, rfl⟩ := q; exact netNode_O (h.plus e) p.f hp.f : Calls Try.prog 75 #[ptV X, .int .i64 p.f] wz fun e w' => e = .returned (.bool true) ∧ wz.Plus w'))
  have kT := Lib.hid (fun (wz : World) (q : wx.Plus wz) => (by obtain ⟨e, rfl⟩ := q; exact netNode_O (h.plus e) p.t hp.t : Calls Try.prog 75 #[ptV X, .int .i64 p.t] wz fun e w' => e = .returned (.bool true) ∧ wz.Plus w'))
  have e1 : (p.f == p.t) = false := by simp [hp.ne]
  have e2 : ¬ (65536 : Int) < (p.s.size : Int) := by have := hp.s; omega
  have e3 := hp.ne
  clear h hp
  unfold Pk.v
  go_enter Try.func55, Try.ntmps55
  go_wp2_with (go_at_call 75; (first | (with_reducible refine (kF.out _ (by (repeat (first | exact Plus.refl _ | apply Plus.plus | apply Plus.alloc | apply Plus.drew)))).mono ?_) | (with_reducible refine (kT.out _ (by (repeat (first | exact Plus.refl _ | apply Plus.plus | apply Plus.alloc | apply Plus.drew)))).mono ?_)); rintro e w' ⟨rfl, e0, rfl⟩)
  go_ret
  refine ⟨?_, by (repeat (first | exact Plus.refl _ | apply Plus.plus | apply Plus.alloc | apply Plus.drew))⟩
  simp
  omega
theorem netIndexFunc_O (h : Own W wx (netA X l :: r)) (p : Pk) (hp : p.Ok) (B : Nat) (hB : B < wx.heap.size) (h0 : wx.cell? ⟨B, 0, none⟩ = some (.int .i64 p.f)) (h1 : wx.cell? ⟨B, 1, none⟩ = some (.int .i64 p.t)) (h2 : wx.cell? ⟨B, 2, none⟩ = some (.string p.s)) :
    Calls Try.prog 74 #[.slice (some ⟨B, 0, none⟩) 1 1, .func (.func 55) #[ptV X] #[]] wx fun e w' => e = .returned (.int .i64 (-1)) ∧ wx.Plus w' := by
  have kW := Lib.hid (fun (wz : World) (q : wx.Plus wz) => (by obtain ⟨e, rfl⟩ := q; exact netWrong_O (h.plus e) p hp : Calls Try.prog 55 #[ptV X, .agg #[.int .i64 p.f, .int .i64 p.t, .string p.s]] wz fun e w' => e = .returned (.bool false) ∧ wz.Plus w'))
  haveI : InW B wx := ⟨hB⟩
  clear h hp hB
  go_enter Try.func74, Try.ntmps74
  go_wp2_with fail
  go_loopw [8] (fun v wr => ∃ i : Nat, i ≤ 1 ∧ v = .int .i64 i ∧ wx.Plus wr) (fun v _ => 1 - (intOf v).toNat)
  case atStart => exact ⟨0, by omega, rfl, Plus.refl _⟩
  case round =>
    obtain ⟨i, hi, rfl, e, rfl⟩ := hrel
    by_cases hlt : i < 1
    · obtain rfl : i = 0 := by omega
      go_wp2_with (go_at_call 55; (with_reducible refine (kW.out _ (by (repeat (first | exact Plus.refl _ | apply Plus.plus | apply Plus.alloc | apply Plus.drew)))).mono ?_); rintro e w' ⟨rfl, e0, rfl⟩)
      refine ⟨⟨1, by omega, rfl, by (repeat (first | exact Plus.refl _ | apply Plus.plus | apply Plus.alloc | apply Plus.drew))⟩, ?_⟩
      simp [intOf]
    · obtain rfl : i = 1 := by omega
      go_wp2_with fail
      go_ret
      exact ⟨rfl, by (repeat (first | exact Plus.refl _ | apply Plus.plus | apply Plus.alloc | apply Plus.drew))⟩
theorem netContainsFunc_O (h : Own W wx (netA X l :: r)) (p : Pk) (hp : p.Ok) (B : Nat) (hB : B < wx.heap.size) (h0 : wx.cell? ⟨B, 0, none⟩ = some (.int .i64 p.f)) (h1 : wx.cell? ⟨B, 1, none⟩ = some (.int .i64 p.t)) (h2 : wx.cell? ⟨B, 2, none⟩ = some (.string p.s)) :
    Calls Try.prog 54 #[.slice (some ⟨B, 0, none⟩) 1 1, .func (.func 55) #[ptV X] #[]] wx fun e w' => e = .returned (.bool false) ∧ wx.Plus w' := by
  have kI := Lib.hid (netIndexFunc_O h p hp B hB h0 h1 h2)
  clear h hp hB h0 h1 h2
  go_enter Try.func54, Try.ntmps54
  go_wp2_with (go_at_call 74; (with_reducible refine kI.out.mono ?_); rintro e w' ⟨rfl, e0, rfl⟩)
  go_ret
  exact ⟨rfl, by (repeat (first | exact Plus.refl _ | apply Plus.plus | apply Plus.alloc | apply Plus.drew))⟩
end
end Go.Proofs.Ythmfmpkkbgapoaa
-- NetT
/- net: Send of a packet: the walk. -/
set_option linter.unusedSimpArgs false
set_option linter.unusedVariables false
namespace Go.Proofs.Ythmfmpkkbgapoaa
open Go.RowKit
section
variable {W wx : World} {r : List Asn} {X : Nat} {l : List Pk}
set_option maxHeartbeats 1000000 in
theorem netSend_O (h : Own W wx (netA X l :: r)) (p : Pk) (hp : p.Ok) (hl : l.length < 4096) (B : Nat) (hB : B < wx.heap.size) (h0 : wx.cell? ⟨B, 0, none⟩ = some (.int .i64 p.f)) (h1 : wx.cell? ⟨B, 1, none⟩ = some (.int .i64 p.t)) (h2 : wx.cell? ⟨B, 2, none⟩ = some (.string p.s)) :
    Calls Try.prog 31 #[ptV X, .slice (some ⟨B, 0, none⟩) 1 1] wx fun e w' => e = .returned (.tuple #[.int .i64 0, .int .i64 0]) ∧ Own W w' (netA X (l ++ [p]) :: r) := by
  have kC := Lib.hid (netContainsFunc_O h p hp B hB h0 h1 h2)
  replace h := Lib.hid h
  haveI : InW B wx := ⟨hB⟩
  go_enter Try.func31, Try.ntmps31
  go_upto_region 3 with (go_at_call 54; (with_reducible refine kC.out.mono ?_); rintro e w' ⟨rfl, e0, rfl⟩)
  clear kC
  have O2 := h.out.plus e0
  obtain ⟨v, O2⟩ := O2.ex
  obtain ⟨A, c, rfl⟩ := (O2.sl 1 rfl).shape
  obtain ⟨lX, qX, fX⟩ := O2.cells 0 rfl
  have c1 := qX 1 (by simp)
  simp only [List.getElem?_cons_succ, List.getElem?_cons_zero] at c1
  haveI : InW X (wx.plus e0) := ⟨lX⟩
  clear qX fX lX h
  have e3 : wrap64 (4096 - (l.length : Int)) = 4096 - (l.length : Int) := by unfold wrap64; omega
  have e4 : min (1 : Int) (4096 - (l.length : Int)) = 1 := by omega
  replace O2 := Lib.hid O2
  go_upto_region 4 with fail
  have b0 := ((Chg.of_plus wx e0 (fun _ => False)).cell (o := 0) hB (fun h => h)).trans h0
  have b1 := ((Chg.of_plus wx e0 (fun _ => False)).cell (o := 1) hB (fun h => h)).trans h1
  have b2 := ((Chg.of_plus wx e0 (fun _ => False)).cell (o := 2) hB (fun h => h)).trans h2
  haveI : InW B (wx.plus e0) := ⟨Nat.lt_of_lt_of_le hB (Chg.of_plus wx e0 (fun _ => False)).size⟩
  have OP := Lib.hid (fun (wz : World) (p : (wx.plus e0).Plus wz) => (by
    obtain ⟨e, rfl⟩ := p
    exact (O2.out.plus e).rot1 : Own W wz (slA 3 (.slice A l.length c) l.length (pksC l) :: cellsA X [.int .i64 2, .slice A l.length c] :: r)))
  clear O2 h0 h1 h2 hB hp
  generalize wx.plus e0 = w2 at *
  go_cut [] (fun wz => Own W wz (netA X (l ++ [p]) :: r))
  case first =>
    go_region_law ((go_loud (refine step_append_O (by rfl) _ _ 83 83 (by rfl) 48 Try.t48 (.agg #[.int .i64 0, .int .i64 0, .string ⟨#[]⟩]) 3 32 (by kernel_rfl) (by kernel_rfl) (by kernel_rfl) (by kernel_rfl) (by kernel_rfl) rfl (by rfl) (OP.out _ (by (repeat (first | exact Plus.refl _ | apply Plus.plus | apply Plus.alloc | apply Plus.drew)))) (xv := .slice (some ⟨B, 0, none⟩) 1 1) (by rfl) (src_pk _ _ p (by simp [go_sem, b0]) (by simp [go_sem, b1]) (by simp [go_sem, b2])) (by unfold maxLen; first | omega | (simp only; omega)) (by first | omega | (simp only; omega)) ?_); intro A6 c6 w6 O6; obtain ⟨lB6, qB6, fB6⟩ := O6.cells 1 rfl; have b16 := qB6 1 (by simp); simp only [List.getElem?_cons_succ, List.getElem?_cons_zero] at b16; have fb16 := fB6 1; haveI : InW X w6 := ⟨lB6⟩; clear qB6 fB6))
    all_goals
      have O7 := O6.setCellAt 1 1 (.slice A6 (l.length + 1) c6) rfl (by simp)
      simp only [List.set_cons_succ, List.set_cons_zero] at O7
      have O8 : Own W _ (netA X (l ++ [p]) :: r) := Own.mk (fun v : Value => [cellsA X [.int .i64 2, v], slA 3 v (l ++ [p]).length (pksC (l ++ [p]))]) (.slice A6 (l.length + 1) c6) (by rw [← pksC_snoc, List.length_append]; exact O7.rot1)
      replace O8 := Lib.hid O8
      clear O6 O7 b16 fb16 lB6
      go_wp2_with fail
      go_meet
      exact O8.out
  replace hcut := Lib.hid hcut
  go_wp2_with fail
  go_ret2
  exact ⟨rfl, hcut.out⟩
end
end Go.Proofs.Ythmfmpkkbgapoaa
