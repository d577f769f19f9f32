/- session: what is stored into an end; Say: walks. -/
import Derived.Test.YtpmebmbibajcoaaSes2
set_option linter.unusedSimpArgs false
set_option linter.unusedVariables false
namespace Go
theorem Src.ofRows {P : Program} {w : World} {size : Nat} {tx e' : TypeId} (hk : P.underlying tx = some (.slice e')) (hs0 : 0 < size) {A : Option Addr} {n : Nat} {f : Nat → Nat → Value} (hr : RowsAt w A size n f) (c : Nat) (news : List Value) (hl : news.length = n * size)
    (hf : ∀ i j, i < n → j < size → news[i * size + j]? = some (f i j)) (h1 : ∀ u ∈ news, u.oneCell' = true) : Src P size tx (.slice A n c) n news w := by
  by_cases hn : 0 < n
  · obtain ⟨b, off, rfl, hb, hc⟩ := hr hn
    refine Src.ofSlice (P := P) w hk ⟨b, off, none⟩ n c news hl (fun j u hu => ?_) h1
    have hj : j < n * size := by rw [← hl]; exact (List.getElem?_eq_some_iff.1 hu).1
    have hi : j / size < n := Nat.div_lt_of_lt_mul (by rw [Nat.mul_comm]; exact hj)
    have e1 : j / size * size + j % size = j := by rw [Nat.mul_comm]; exact Nat.div_add_mod j size
    have h2 := hc (j / size) (j % size) hi (Nat.mod_lt _ hs0)
    have h3 := hf (j / size) (j % size) hi (Nat.mod_lt _ hs0)
    rw [e1] at h2 h3
    rw [Addr.add_lit, h2, ← h3, hu]
  · obtain rfl : n = 0 := by omega
    obtain rfl : news = [] := List.eq_nil_of_length_eq_zero (by simpa using hl)
    cases A with
    | none => exact Src.ofNil (P := P) w hk c
    | some a => exact Src.ofSlice (P := P) w hk a 0 c [] (by simp) (fun j u h => by simp at h) h1
end Go
namespace Go.Proofs.Ytpmebmbibajcoaa
open Go.RowKit
theorem infoStr : (Try.prog.info? 9).map (fun i => (i.zero, i.size, i.bytes)) = some (some (.string ⟨#[]⟩), 1, 16) := by kernel_rfl
theorem underStrs : Try.prog.underlying 22 = some (.slice 9) := by kernel_rfl
theorem ChAt.set0 {w : World} {N : Nat} {c : Ch} {S : Nat → Prop} (h : ChAt w N c S) (v : Int) : ChAt (w.setCell ⟨N, 0, none⟩ (.int .i64 v)) N { c with mine := v } S := by
  obtain ⟨lt, sub, own, c0, c1, c2, c4, c5, c6, hf, A, cap, c3, hs, hg⟩ := h
  refine ⟨by rw [World.size_setCell]; exact lt, fun k hk => by rw [World.size_setCell]; exact sub k hk, own, ?_, ?_, ?_, ?_, ?_, ?_, fun i => ?_, A, cap, ?_, hs.chg (Chg.of_setCell w _ _ (fun k => k = N) rfl) (fun g h => (hg g h).2), hg⟩
  all_goals simp [go_sem, c0, c1, c2, c3, c4, c5, c6, hf]
theorem ChAt.set1 {w : World} {N : Nat} {c : Ch} {S : Nat → Prop} (h : ChAt w N c S) (v : Int) : ChAt (w.setCell ⟨N, 1, none⟩ (.int .i64 v)) N { c with yours := v } S := by
  obtain ⟨lt, sub, own, c0, c1, c2, c4, c5, c6, hf, A, cap, c3, hs, hg⟩ := h
  refine ⟨by rw [World.size_setCell]; exact lt, fun k hk => by rw [World.size_setCell]; exact sub k hk, own, ?_, ?_, ?_, ?_, ?_, ?_, fun i => ?_, A, cap, ?_, hs.chg (Chg.of_setCell w _ _ (fun k => k = N) rfl) (fun g h => (hg g h).2), hg⟩
  all_goals simp [go_sem, c0, c1, c2, c3, c4, c5, c6, hf]
theorem ChAt.set2 {w : World} {N : Nat} {c : Ch} {S : Nat → Prop} (h : ChAt w N c S) (v : Int) : ChAt (w.setCell ⟨N, 2, none⟩ (.int .i64 v)) N { c with first := v } S := by
  obtain ⟨lt, sub, own, c0, c1, c2, c4, c5, c6, hf, A, cap, c3, hs, hg⟩ := h
  refine ⟨by rw [World.size_setCell]; exact lt, fun k hk => by rw [World.size_setCell]; exact sub k hk, own, ?_, ?_, ?_, ?_, ?_, ?_, fun i => ?_, A, cap, ?_, hs.chg (Chg.of_setCell w _ _ (fun k => k = N) rfl) (fun g h => (hg g h).2), hg⟩
  all_goals simp [go_sem, c0, c1, c2, c3, c4, c5, c6, hf]
theorem ChAt.set4 {w : World} {N : Nat} {c : Ch} {S : Nat → Prop} (h : ChAt w N c S) (v : Int) : ChAt (w.setCell ⟨N, 4, none⟩ (.int .i64 v)) N { c with last := v } S := by
  obtain ⟨lt, sub, own, c0, c1, c2, c4, c5, c6, hf, A, cap, c3, hs, hg⟩ := h
  refine ⟨by rw [World.size_setCell]; exact lt, fun k hk => by rw [World.size_setCell]; exact sub k hk, own, ?_, ?_, ?_, ?_, ?_, ?_, fun i => ?_, A, cap, ?_, hs.chg (Chg.of_setCell w _ _ (fun k => k = N) rfl) (fun g h => (hg g h).2), hg⟩
  all_goals simp [go_sem, c0, c1, c2, c3, c4, c5, c6, hf]
theorem ChAt.set5 {w : World} {N : Nat} {c : Ch} {S : Nat → Prop} (h : ChAt w N c S) (v : Bool) : ChAt (w.setCell ⟨N, 5, none⟩ (.bool v)) N { c with met := v } S := by
  obtain ⟨lt, sub, own, c0, c1, c2, c4, c5, c6, hf, A, cap, c3, hs, hg⟩ := h
  refine ⟨by rw [World.size_setCell]; exact lt, fun k hk => by rw [World.size_setCell]; exact sub k hk, own, ?_, ?_, ?_, ?_, ?_, ?_, fun i => ?_, A, cap, ?_, hs.chg (Chg.of_setCell w _ _ (fun k => k = N) rfl) (fun g h => (hg g h).2), hg⟩
  all_goals simp [go_sem, c0, c1, c2, c3, c4, c5, c6, hf]
theorem ChAt.set6 {w : World} {N : Nat} {c : Ch} {S : Nat → Prop} (h : ChAt w N c S) (v : Bool) : ChAt (w.setCell ⟨N, 6, none⟩ (.bool v)) N { c with owes := v } S := by
  obtain ⟨lt, sub, own, c0, c1, c2, c4, c5, c6, hf, A, cap, c3, hs, hg⟩ := h
  refine ⟨by rw [World.size_setCell]; exact lt, fun k hk => by rw [World.size_setCell]; exact sub k hk, own, ?_, ?_, ?_, ?_, ?_, ?_, fun i => ?_, A, cap, ?_, hs.chg (Chg.of_setCell w _ _ (fun k => k = N) rfl) (fun g h => (hg g h).2), hg⟩
  all_goals simp [go_sem, c0, c1, c2, c3, c4, c5, c6, hf]
/-- another slice of texts is stored -/
theorem ChAt.set3 {w : World} {N : Nat} {c : Ch} {S : Nat → Prop} (h : ChAt w N c S) (ws : List ByteArray) (A : Option Addr) (cap : Nat) (hs : Sl w 1 (.slice A ws.length cap) ws.length (ws.map Value.string)) (hg : ∀ g, (Value.slice A ws.length cap).ownBlock = some g → S g ∧ g ≠ N) :
    ChAt (w.setCell ⟨N, 3, none⟩ (.slice A ws.length cap)) N { c with wait := ws } S := by
  obtain ⟨lt, sub, own, c0, c1, c2, c4, c5, c6, hf, A0, cap0, c3, hs0, hg0⟩ := h
  refine ⟨by rw [World.size_setCell]; exact lt, fun k hk => by rw [World.size_setCell]; exact sub k hk, own, ?_, ?_, ?_, ?_, ?_, ?_, fun i => ?_, A, cap, ?_, hs.chg (Chg.of_setCell w _ _ (fun k => k = N) rfl) (fun g h => (hg g h).2), hg⟩
  all_goals simp [go_sem, c0, c1, c2, c3, c4, c5, c6, hf]
theorem ChAt.set3nil {w : World} {N : Nat} {c : Ch} {S : Nat → Prop} (h : ChAt w N c S) : ChAt (w.setCell ⟨N, 3, none⟩ (.slice none 0 0)) N { c with wait := [] } S :=
  h.set3 [] none 0 (Sl.nil _ _) (fun g hg => by cases hg)
/-- the end's own cells, where only the texts' row has changed -/
theorem ChAt.store3 {w w2 : World} {N : Nat} {c : Ch} {S : Nat → Prop} (h : ChAt w N c S) {T : Nat → Prop} (hch : Chg w w2 T) (hT : ∀ k, T k → S k ∧ k ≠ N) (ws : List ByteArray) (A : Option Addr) (cap : Nat)
    (hs : Sl w2 1 (.slice A ws.length cap) ws.length (ws.map Value.string)) (hg : ∀ g, (Value.slice A ws.length cap).ownBlock = some g → (S g ∧ g ≠ N) ∨ g = w.heap.size) :
    ChAt (w2.setCell ⟨N, 3, none⟩ (.slice A ws.length cap)) N { c with wait := ws } (Grown S w (w2.setCell ⟨N, 3, none⟩ (.slice A ws.length cap))) ∧ Chg w (w2.setCell ⟨N, 3, none⟩ (.slice A ws.length cap)) S := by
  obtain ⟨lt, sub, own, c0, c1, c2, c4, c5, c6, hf, A0, cap0, c3, hs0, hg0⟩ := h
  have hN : ¬ T N := fun h => (hT N h).2 rfl
  have lt2 : N < w2.heap.size := Nat.lt_of_lt_of_le lt hch.size
  have e : ∀ i, w2.cell? ⟨N, i, none⟩ = w.cell? ⟨N, i, none⟩ := fun i => hch.cell lt hN
  have e2 : ∀ i, w2.frozen? ⟨N, i, none⟩ = w.frozen? ⟨N, i, none⟩ := fun i => hch.frozen lt hN
  refine ⟨⟨by rw [World.size_setCell]; exact lt2, fun k hk => ?_, .inl own, ?_, ?_, ?_, ?_, ?_, ?_, fun i => ?_, A, cap, ?_, hs.chg (Chg.of_setCell w2 _ _ (fun k => k = N) rfl) (fun g h => ?_), fun g h => ?_⟩, (hch.mono fun k h => (hT k h).1).setCell _ _ (.inl own)⟩
  · rw [World.size_setCell]
    rcases hk with hk | hk
    · exact Nat.lt_of_lt_of_le (sub k hk) hch.size
    · rw [World.size_setCell] at hk; exact hk.2
  · simp [go_sem, e, c0]
  · simp [go_sem, e, c1]
  · simp [go_sem, e, c2]
  · simp [go_sem, e, c4]
  · simp [go_sem, e, c5]
  · simp [go_sem, e, c6]
  · simp [go_sem, e2, hf]
  · simp [go_sem, e, c3]
  · rcases hg g h with h2 | h2
    · exact h2.2
    · omega
  · have hgl := hs.lt g h
    rcases hg g h with h2 | h2
    · exact ⟨.inl h2.1, h2.2⟩
    · exact ⟨.inr ⟨by omega, by rw [World.size_setCell]; exact hgl⟩, by omega⟩
def strV (xs : List ByteArray) : List Value := xs.map Value.string
theorem src_strs {w : World} {A : Option Addr} {xs : List ByteArray} (hr : RowsAt w A 1 xs.length (strAt xs)) (cp : Nat) : Src Try.prog 1 22 (.slice A xs.length cp) xs.length (xs.map Value.string) w :=
  Src.ofRows underStrs (by decide) hr cp _ (by simp) (fun i j hi hj => by
    obtain rfl : j = 0 := by omega
    simp [strAt, List.getD_eq_getElem?_getD, List.getElem?_eq_getElem hi]) (fun u hu => by
    obtain ⟨s, _, rfl⟩ := List.mem_map.1 hu
    rfl)
def sayE (c : Ch) (xs : List ByteArray) : Int := if xs.any longB then 1 else if 1024 < (c.wait.length + xs.length : Nat) then 8 else 0
def sayC (c : Ch) (xs : List ByteArray) : Ch := if sayE c xs = 0 then { c with wait := c.wait ++ xs } else c
section
variable (w : World) (N : Nat) (c : Ch) (S : Nat → Prop)
theorem ChPost.same {w : World} {N : Nat} {c : Ch} {S : Nat → Prop} (h : ChAt w N c S) (v : Value) (e : Ext) : ChPost w N S v c (.returned v) (w.plus e) :=
  ⟨rfl, (h.plus e).more (fun k hk => .inl hk) (fun k hk => hk.elim (fun h2 => by rw [World.size_plus_eq]; have := h.sub k h2; omega) fun h2 => h2.2), Chg.of_plus w e S⟩
theorem say_nil (A : Option Addr) (n cp : Nat) : Calls Try.prog 13 #[.pointer none, .slice A n cp] w fun e w' => e = .returned (.int .i64 1) ∧ w.Plus w' := by
  go_enter Try.func13, Try.ntmps13
  go_wp2_with fail
  go_ret
  exact ⟨rfl, by (repeat (first | exact Plus.refl _ | apply Plus.plus | apply Plus.alloc | apply Plus.drew))⟩
set_option maxRecDepth 100000 in
set_option maxHeartbeats 1000000 in
theorem say_any (A : Option Addr) (cp : Nat) (xs : List ByteArray) (h : ChAt w N c S) (hn : xs.length ≤ 140737488351232) (hl : c.wait.length ≤ 1024) (hr : RowsAt w A 1 xs.length (strAt xs)) :
    Calls Try.prog 13 #[chV N, .slice A xs.length cp] w (ChPost w N S (.int .i64 (sayE c xs)) (sayC c xs)) := by
  obtain ⟨i0, hi0, hz0, hz1, hz2⟩ := info_parts infoStr
  have hh := Lib.hid h
  obtain ⟨lt, sub, own, c0, c1, c2, c4, c5, c6, hf, A0, cap0, c3, hs, hg⟩ := h
  have f3 := hf 3
  replace hf := Lib.hid hf
  haveI : InW N w := ⟨lt⟩
  have hC := Lib.hid (fun w' (hp : w.Plus w') => contains_any w' A cp xs hn (hr.plus hp))
  have hsrc := Lib.hid (fun w' (hp : w.Plus w') => src_strs (hr.plus hp) cp)
  replace hr := Lib.hid hr
  replace hs := Lib.hid hs
  replace hg := Lib.hid hg
  replace sub := Lib.hid sub
  by_cases ha : xs.any longB = true
  · have hE : sayE c xs = 1 := by unfold sayE; rw [if_pos ha]
    have hS : sayC c xs = c := by unfold sayC; rw [hE]; rfl
    rw [hE, hS]
    rw [ha] at hC
    clear hE hS
    replace ha := Lib.hid ha
    go_enter Try.func13, Try.ntmps13
    go_wp2_with (first | (go_at_call 31; (with_reducible refine (hC.out _ (by (repeat (first | exact Plus.refl _ | apply Plus.plus | apply Plus.alloc | apply Plus.drew)))).mono ?_); rintro e w' ⟨rfl, ey, rfl⟩))
    go_ret
    exact ChPost.same hh.out _ _
  have haf : xs.any longB = false := by simpa using ha
  rw [haf] at hC
  by_cases hfull : 1024 < c.wait.length + xs.length
  · have hE : sayE c xs = 8 := by unfold sayE; rw [if_neg ha, if_pos hfull]
    have hS : sayC c xs = c := by unfold sayC; rw [hE]; rfl
    rw [hE, hS]
    clear hE hS
    replace ha := Lib.hid ha
    replace haf := Lib.hid haf
    have hfi : (1024 : Int) - c.wait.length < xs.length := by omega
    go_enter Try.func13, Try.ntmps13
    go_wp2_with (first | (go_at_call 31; (with_reducible refine (hC.out _ (by (repeat (first | exact Plus.refl _ | apply Plus.plus | apply Plus.alloc | apply Plus.drew)))).mono ?_); rintro e w' ⟨rfl, ey, rfl⟩))
    go_ret
    exact ChPost.same hh.out _ _
  · have hE : sayE c xs = 0 := by unfold sayE; rw [if_neg ha, if_neg hfull]
    have hS : sayC c xs = { c with wait := c.wait ++ xs } := by unfold sayC; rw [hE]; rfl
    rw [hE, hS]
    clear hE hS
    replace ha := Lib.hid ha
    replace haf := Lib.hid haf
    have hfi : ¬ (1024 : Int) - c.wait.length < xs.length := by omega
    have hlen : (c.wait ++ xs).length = c.wait.length + xs.length := List.length_append
    have hmap : (c.wait ++ xs).map Value.string = c.wait.map Value.string ++ xs.map Value.string := List.map_append
    replace hlen := Lib.hid hlen
    replace hmap := Lib.hid hmap
    go_enter Try.func13, Try.ntmps13
    go_wp2_with (first | (go_at_call 31; (with_reducible refine (hC.out _ (by (repeat (first | exact Plus.refl _ | apply Plus.plus | apply Plus.alloc | apply Plus.drew)))).mono ?_); rintro e w' ⟨rfl, ey, rfl⟩) | (at_builtin; refine wpList_append_sl rfl _ _ 22 22 rfl 9 i0 (.string ⟨#[]⟩) 1 16 underStrs hi0 hz0 hz1 hz2 rfl rfl (hs.out.plus _) rfl (hsrc.out _ (by (repeat (first | exact Plus.refl _ | apply Plus.plus | apply Plus.alloc | apply Plus.drew)))) (by unfold maxLen; omega) (by omega) ?_; intro A2 cap2 w2 hs2 hch2 ho2 hm2; have lt2 : N < w2.heap.size := Nat.lt_of_lt_of_le (by simp [go_sem]; omega) hch2.size; haveI : InW N w2 := ⟨lt2⟩; have d3 := (hch2.cell (o := 3) (by simp [go_sem]; omega) (fun h => (hg.out N h).2 rfl)).trans ((World.cell?_plus w ey N 3).trans c3); have g3 := (hch2.frozen (o := 3) (by simp [go_sem]; omega) (fun h => (hg.out N h).2 rfl)).trans ((World.frozen?_plus w ey N 3).trans f3)))
    go_ret
    rw [← hlen.out, ← hmap.out] at hs2
    rw [← hlen.out] at ho2
    rw [← hlen.out]
    obtain ⟨k1, k2⟩ := (hh.out.plus ey).store3 hch2 (fun k hk => hg.out k hk) (c.wait ++ xs) A2 cap2 hs2 (fun g h => by
      rcases ho2 with h2 | h2
      · rw [h2] at h; exact .inl (hg.out g h)
      · rw [h2] at h; exact .inr (Option.some.inj h).symm)
    refine ⟨rfl, k1.more (fun k hk => ?_) (fun k hk => ?_), (Chg.of_plus w ey S).trans k2 (fun _ h _ => h)⟩
    · rcases hk with hk | hk
      · exact .inl hk
      · exact .inr ⟨by have := hk.1; rw [World.size_plus_eq] at this; omega, hk.2⟩
    · rcases hk with hk | hk
      · exact Nat.lt_of_lt_of_le (sub.out k hk) (by rw [World.size_setCell]; exact Nat.le_trans (by rw [World.size_plus_eq]; omega) hch2.size)
      · exact hk.2
end
end Go.Proofs.Ytpmebmbibajcoaa
