/- session: Hear: what it says, and its frame. -/
import Derived.Test.YtpmebmbibajcoaaSes3
set_option linter.unusedSimpArgs false
set_option linter.unusedVariables false
namespace Go.Proofs.Ytpmebmbibajcoaa
open Go.RowKit
structure Hd where
  text : ByteArray
  is : Bool
  anew : Bool
abbrev Hd.v (h : Hd) : Value := .agg #[.string h.text, .bool h.is, .bool h.anew]
abbrev hd0 : Hd := ⟨⟨#[]⟩, false, false⟩
def ch1 (c : Ch) (p : Post) : Ch := if c.yours < p.mine then ⟨c.mine, p.mine, 1, [], 0, false, false⟩ else c
def ch2 (c : Ch) (p : Post) : Ch := { ch1 c p with owes := (ch1 c p).owes || (decide (c.yours < p.mine) || (decide (0 < p.seq) || decide (p.yours ≠ c.mine))) }
def ch3 (c : Ch) (p : Post) : Ch := { ch2 c p with met := true }
def hearN (c : Ch) (p : Post) : Int := min (p.ack - c.first + 1) (c.wait.length : Int)
def ch4 (c : Ch) (p : Post) : Ch := if 0 < hearN (ch3 c p) p then { ch3 c p with wait := (ch3 c p).wait.drop (hearN (ch3 c p) p).toNat, first := (ch3 c p).first + hearN (ch3 c p) p } else ch3 c p
def hear (c : Ch) (p : Post) : Hd × Int × Ch :=
  if okPost p = false then (hd0, 1, c)
  else if p.mine < c.yours then (hd0, 9, c)
  else if p.yours ≠ c.mine then (⟨⟨#[]⟩, false, decide (c.yours < p.mine)⟩, 0, ch2 c p)
  else if 0 < p.seq ∧ p.seq = (ch4 c p).last + 1 then (⟨p.text, true, decide (c.yours < p.mine)⟩, 0, { ch4 c p with last := (ch4 c p).last + 1 })
  else (⟨⟨#[]⟩, false, decide (c.yours < p.mine)⟩, 0, ch4 c p)
/-- the frame of Hear: the end, the post's block P, the answer's R, the local one H -/
structure Hr (w : World) (N : Nat) (S : Nat → Prop) (P R H : Nat) (c : Ch) (p : Post) (h : Hd) (wx : World) : Prop where
  ch : ChAt wx N c S
  chg : Chg w wx S
  ltP : P < wx.heap.size
  ltR : R < wx.heap.size
  ltH : H < wx.heap.size
  p0 : wx.cell? ⟨P, 0, none⟩ = some (.int .i64 p.mine)
  p1 : wx.cell? ⟨P, 1, none⟩ = some (.int .i64 p.yours)
  p2 : wx.cell? ⟨P, 2, none⟩ = some (.int .i64 p.ack)
  p3 : wx.cell? ⟨P, 3, none⟩ = some (.int .i64 p.seq)
  p4 : wx.cell? ⟨P, 4, none⟩ = some (.string p.text)
  h0 : wx.cell? ⟨H, 0, none⟩ = some (.string h.text)
  h1 : wx.cell? ⟨H, 1, none⟩ = some (.bool h.is)
  h2 : wx.cell? ⟨H, 2, none⟩ = some (.bool h.anew)
  r0 : wx.cell? ⟨R, 0, none⟩ = some (.string ⟨#[]⟩)
  r1 : wx.cell? ⟨R, 1, none⟩ = some (.bool false)
  r2 : wx.cell? ⟨R, 2, none⟩ = some (.bool false)
  hH : ∀ i, wx.frozen? ⟨H, i, none⟩ = false
  hR : ∀ i, wx.frozen? ⟨R, i, none⟩ = false
/-- the four blocks are four -/
structure Four (N P R H : Nat) : Prop where
  pn : P ≠ N
  rn : R ≠ N
  hn : H ≠ N
  ph : P ≠ H
  rh : R ≠ H
section
variable {w : World} {N : Nat} {S : Nat → Prop} {P R H : Nat} {c : Ch} {p : Post} {h : Hd} {wx : World}
theorem Hr.plus (k : Hr w N S P R H c p h wx) (e : Ext) : Hr w N S P R H c p h (wx.plus e) := by
  obtain ⟨ch, chg, ltP, ltR, ltH, p0, p1, p2, p3, p4, h0, h1, h2, r0, r1, r2, hH, hR⟩ := k
  haveI : InW P wx := ⟨ltP⟩
  haveI : InW R wx := ⟨ltR⟩
  haveI : InW H wx := ⟨ltH⟩
  exact ⟨ch.plus e, chg.plus e, InW.lt, InW.lt, InW.lt, by rw [World.cell?_plus]; exact p0, by rw [World.cell?_plus]; exact p1, by rw [World.cell?_plus]; exact p2, by rw [World.cell?_plus]; exact p3, by rw [World.cell?_plus]; exact p4,
    by rw [World.cell?_plus]; exact h0, by rw [World.cell?_plus]; exact h1, by rw [World.cell?_plus]; exact h2, by rw [World.cell?_plus]; exact r0, by rw [World.cell?_plus]; exact r1, by rw [World.cell?_plus]; exact r2,
    fun i => by rw [World.frozen?_plus]; exact hH i, fun i => by rw [World.frozen?_plus]; exact hR i⟩
theorem cell_other {w : World} {b o b' o' : Nat} {v : Value} (h : b' ≠ b) : (w.setCell ⟨b, o, none⟩ v).cell? ⟨b', o', none⟩ = w.cell? ⟨b', o', none⟩ :=
  World.cell?_setCell_other _ _ _ _ (fun e => h (by injection e with e1; exact e1.symm))
theorem Hr.setN (k : Hr w N S P R H c p h wx) (f : Four N P R H) {c' : Ch} {i : Nat} {v : Value} (hc : ChAt (wx.setCell ⟨N, i, none⟩ v) N c' S) : Hr w N S P R H c' p h (wx.setCell ⟨N, i, none⟩ v) := by
  obtain ⟨ch, chg, ltP, ltR, ltH, p0, p1, p2, p3, p4, h0, h1, h2, r0, r1, r2, hH, hR⟩ := k
  have s : (wx.setCell ⟨N, i, none⟩ v).heap.size = wx.heap.size := World.size_setCell ..
  exact ⟨hc, chg.setCell _ _ (.inl ch.own), by rw [s]; exact ltP, by rw [s]; exact ltR, by rw [s]; exact ltH, by rw [cell_other f.pn]; exact p0, by rw [cell_other f.pn]; exact p1, by rw [cell_other f.pn]; exact p2, by rw [cell_other f.pn]; exact p3, by rw [cell_other f.pn]; exact p4,
    by rw [cell_other f.hn]; exact h0, by rw [cell_other f.hn]; exact h1, by rw [cell_other f.hn]; exact h2, by rw [cell_other f.rn]; exact r0, by rw [cell_other f.rn]; exact r1, by rw [cell_other f.rn]; exact r2,
    fun i => by rw [World.frozen?_setCell]; exact hH i, fun i => by rw [World.frozen?_setCell]; exact hR i⟩
theorem ChPost.of_plus {w w' : World} {N : Nat} {c : Ch} {S : Nat → Prop} (h : ChAt w N c S) (v : Value) (hp : w.Plus w') : ChPost w N S v c (.returned v) w' := by
  obtain ⟨e, rfl⟩ := hp
  exact ChPost.same h v e
theorem okPost_bounds {p : Post} (h : okPost p = true) : (1 ≤ p.mine ∧ p.mine ≤ 1099511627776) ∧ (0 ≤ p.yours ∧ p.yours ≤ 1099511627776) ∧ (0 ≤ p.ack ∧ p.ack ≤ 1099511627776) ∧ (0 ≤ p.seq ∧ p.seq ≤ 1099511627776) := by
  unfold okPost inT at h
  simp only [Bool.and_eq_true, decide_eq_true_eq] at h
  omega
/-- the frame at the beginning -/
theorem Hr.start {w : World} {N : Nat} {c : Ch} {S : Nat → Prop} (h : ChAt w N c S) (p : Post) (ey : Ext) {P R H : Nat} (hP : P = w.heap.size) (hR : R = w.heap.size + 1) (hH : H = w.heap.size + 2) :
    Hr w N S P R H c p hd0 ((((w.alloc (.cells #[.int .i64 p.mine, .int .i64 p.yours, .int .i64 p.ack, .int .i64 p.seq, .string p.text] 32)).alloc (.cells #[.string ⟨#[]⟩, .bool false, .bool false] 28)).alloc (.cells #[.string ⟨#[]⟩, .bool false, .bool false] 28)).plus ey) ∧ Four N P R H := by
  subst hP hR hH
  have hl := h.lt
  refine ⟨Hr.plus ⟨?_, ((Chg.of_alloc w _ S).alloc _).alloc _, ?_, ?_, ?_, ?_, ?_, ?_, ?_, ?_, ?_, ?_, ?_, ?_, ?_, ?_, fun i => ?_, fun i => ?_⟩ ey, ⟨by omega, by omega, by omega, by omega, by omega⟩⟩
  · exact ((h.chg (Chg.of_alloc w _ fun _ => False) fun _ _ h => h).chg (Chg.of_alloc _ _ fun _ => False) fun _ _ h => h).chg (Chg.of_alloc _ _ fun _ => False) fun _ _ h => h
  all_goals simp [go_sem]
theorem Hr.done {w : World} {N : Nat} {S : Nat → Prop} {P R H : Nat} {c : Ch} {p : Post} {h : Hd} {wx : World} (k : Hr w N S P R H c p h wx) (hR : w.heap.size ≤ R) (hS : ¬ S R) (x y z v : Value) :
    ChPost w N S v c (.returned v) (((wx.setCell ⟨R, 0, none⟩ x).setCell ⟨R, 1, none⟩ y).setCell ⟨R, 2, none⟩ z) := by
  have hd : ∀ (w1 : World) i (u : Value), ChAt w1 N c S → ChAt (w1.setCell ⟨R, i, none⟩ u) N c S := fun w1 i u h => h.chg (Chg.of_setCell w1 _ _ (fun k => k = R) rfl) (fun k hk e => hS (e ▸ hk))
  have h3 := hd _ 2 z (hd _ 1 y (hd _ 0 x k.ch))
  refine ⟨rfl, h3.more (fun k hk => .inl hk) (fun i hi => hi.elim (fun h => h3.sub i h) fun h => h.2), ((k.chg.setCell _ _ (.inr hR)).setCell _ _ (.inr hR)).setCell _ _ (.inr hR)⟩
theorem Hr.setH2 (k : Hr w N S P R H c p h wx) (f : Four N P R H) (hw : w.heap.size ≤ H) (hS : ¬ S H) (b : Bool) : Hr w N S P R H c p { h with anew := b } (wx.setCell ⟨H, 2, none⟩ (.bool b)) := by
  obtain ⟨ch, chg, ltP, ltR, ltH, p0, p1, p2, p3, p4, h0, h1, h2, r0, r1, r2, hH, hR⟩ := k
  have s : (wx.setCell ⟨H, 2, none⟩ (.bool b)).heap.size = wx.heap.size := World.size_setCell ..
  haveI : InW H wx := ⟨ltH⟩
  exact ⟨ch.chg (Chg.of_setCell wx _ _ (fun k => k = H) rfl) (fun k hk e => hS (e ▸ hk)), chg.setCell _ _ (.inr hw), by rw [s]; exact ltP, by rw [s]; exact ltR, by rw [s]; exact ltH, by rw [cell_other f.ph]; exact p0, by rw [cell_other f.ph]; exact p1, by rw [cell_other f.ph]; exact p2, by rw [cell_other f.ph]; exact p3, by rw [cell_other f.ph]; exact p4,
    by simp [go_sem, h0], by simp [go_sem, h1], by simp [go_sem, h2], by rw [cell_other f.rh]; exact r0, by rw [cell_other f.rh]; exact r1, by rw [cell_other f.rh]; exact r2,
    fun i => by rw [World.frozen?_setCell]; exact hH i, fun i => by rw [World.frozen?_setCell]; exact hR i⟩
theorem Hr.setH01 (k : Hr w N S P R H c p h wx) (f : Four N P R H) (hw : w.heap.size ≤ H) (hS : ¬ S H) (t : ByteArray) (b : Bool) : Hr w N S P R H c p ⟨t, b, h.anew⟩ ((wx.setCell ⟨H, 0, none⟩ (.string t)).setCell ⟨H, 1, none⟩ (.bool b)) := by
  obtain ⟨ch, chg, ltP, ltR, ltH, p0, p1, p2, p3, p4, h0, h1, h2, r0, r1, r2, hH, hR⟩ := k
  have s : ((wx.setCell ⟨H, 0, none⟩ (.string t)).setCell ⟨H, 1, none⟩ (.bool b)).heap.size = wx.heap.size := by simp only [World.size_setCell]
  have e : ∀ b' o', b' ≠ H → ((wx.setCell ⟨H, 0, none⟩ (.string t)).setCell ⟨H, 1, none⟩ (.bool b)).cell? ⟨b', o', none⟩ = wx.cell? ⟨b', o', none⟩ := fun b' o' h => (cell_other h).trans (cell_other h)
  haveI : InW H wx := ⟨ltH⟩
  have hd : ∀ (w1 : World) i (u : Value), ChAt w1 N c S → ChAt (w1.setCell ⟨H, i, none⟩ u) N c S := fun w1 i u h => h.chg (Chg.of_setCell w1 _ _ (fun k => k = H) rfl) (fun k hk e => hS (e ▸ hk))
  exact ⟨hd _ _ _ (hd _ _ _ ch), (chg.setCell _ _ (.inr hw)).setCell _ _ (.inr hw), by rw [s]; exact ltP, by rw [s]; exact ltR, by rw [s]; exact ltH, by rw [e _ _ f.ph]; exact p0, by rw [e _ _ f.ph]; exact p1, by rw [e _ _ f.ph]; exact p2, by rw [e _ _ f.ph]; exact p3, by rw [e _ _ f.ph]; exact p4,
    by simp [go_sem, h0], by simp [go_sem, h1], by simp [go_sem, h2], by rw [e _ _ f.rh]; exact r0, by rw [e _ _ f.rh]; exact r1, by rw [e _ _ f.rh]; exact r2,
    fun i => by rw [World.frozen?_setCell, World.frozen?_setCell]; exact hH i, fun i => by rw [World.frozen?_setCell, World.frozen?_setCell]; exact hR i⟩
theorem ChPost.plus {w w' : World} {N : Nat} {c : Ch} {S : Nat → Prop} {v : Value} {e : Ending} (h : ChPost w N S v c e w') (x : Ext) : ChPost w N S v c e (w'.plus x) :=
  ⟨h.1, (h.2.1.plus x).more (fun k hk => hk.elim .inl fun h => .inr ⟨h.1, by rw [World.size_plus_eq]; omega⟩) (fun k hk => hk.elim (fun h2 => by have := h.2.1.sub k (.inl h2); rw [World.size_plus_eq]; omega) fun h => h.2), h.2.2.plus x⟩
end
end Go.Proofs.Ytpmebmbibajcoaa
