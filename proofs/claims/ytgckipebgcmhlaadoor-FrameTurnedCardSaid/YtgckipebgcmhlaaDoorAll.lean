/- frame.All and the reference's: walks. -/
import Derived.Test.YtgckipebgcmhlaaDoorFirst
import Derived.Test.YtgckipebgcmhlaaDoorOwn
set_option linter.unusedSimpArgs false
set_option linter.unusedVariables false
namespace Go.Proofs.YtgckipebgcmhlaaDoor
open Go.RowKit
open Go.Crc hiding step
def allFrom (s : ByteArray) : Nat → Nat → List ByteArray × Nat
  | 0, a => ([], a)
  | f + 1, a => if code s a = 0 then (txt (part s (a + 3) (num s a)) :: (allFrom s f (a + 7 + num s a)).1, (allFrom s f (a + 7 + num s a)).2) else ([], a)
theorem code_zero {s : ByteArray} {a : Nat} (h : code s a = 0) : a + (7 + num s a) ≤ s.size := by
  unfold code at h
  split at h
  · omega
  · split at h
    · omega
    · split at h
      · omega
      · omega
theorem allFrom_fuel (s : ByteArray) : ∀ (f g a : Nat), s.size - a ≤ f → s.size - a ≤ g → allFrom s f a = allFrom s g a
  | 0, 0, _, _, _ => rfl
  | 0, g + 1, a, hf, hg => by
    have : ¬ code s a = 0 := fun h => by have := code_zero h; omega
    simp [allFrom, this]
  | f + 1, 0, a, hf, hg => by
    have : ¬ code s a = 0 := fun h => by have := code_zero h; omega
    simp [allFrom, this]
  | f + 1, g + 1, a, hf, hg => by
    by_cases h : code s a = 0
    · have := code_zero h
      simp only [allFrom, if_pos h]
      rw [allFrom_fuel s f g (a + 7 + num s a) (by omega) (by omega)]
    · simp [allFrom, h]
def allOf (s : ByteArray) (a : Nat) : List ByteArray × Nat := allFrom s (s.size + 1) a
theorem allOf_stop {s : ByteArray} {a : Nat} (h : ¬ code s a = 0) : allOf s a = ([], a) := by simp [allOf, allFrom, h]
theorem allOf_step {s : ByteArray} {a : Nat} (h : code s a = 0) : allOf s a = (txt (part s (a + 3) (num s a)) :: (allOf s (a + 7 + num s a)).1, (allOf s (a + 7 + num s a)).2) := by
  have := code_zero h
  have e : allOf s (a + 7 + num s a) = allFrom s s.size (a + 7 + num s a) := allFrom_fuel s _ _ _ (by omega) (by omega)
  rw [e]
  simp [allOf, allFrom, h]
/-- how far a list has come -/
structure AllRel (s : ByteArray) (l : List ByteArray) (a : Nat) : Prop where
  list : l ++ (allOf s a).1 = (allOf s 0).1
  at' : (allOf s a).2 = (allOf s 0).2
  le : a ≤ s.size
  len : l.length ≤ a
theorem AllRel.start (s : ByteArray) : AllRel s [] 0 := ⟨rfl, rfl, Nat.zero_le _, Nat.le_refl _⟩
theorem AllRel.next {s : ByteArray} {l : List ByteArray} {a : Nat} (h : AllRel s l a) (hc : code s a = 0) : AllRel s (l ++ [txt (part s (a + 3) (num s a))]) (a + 7 + num s a) := by
  have h1 := h.list
  have h2 := h.at'
  have h3 := code_zero hc
  rw [allOf_step hc] at h1 h2
  refine ⟨?_, h2, by omega, by have := h.len; simp; omega⟩
  rw [← h1, List.append_assoc]; rfl
theorem AllRel.stop {s : ByteArray} {l : List ByteArray} {a : Nat} (h : AllRel s l a) (hc : ¬ code s a = 0) : (allOf s 0) = (l, a) := by
  have h1 := h.list
  have h2 := h.at'
  rw [allOf_stop hc] at h1 h2
  simp only [List.append_nil] at h1
  exact Prod.ext h1.symm h2.symm
theorem infoStr : (Tryd.prog.info? 9).map (fun i => (i.zero, i.size, i.bytes)) = some (some (.string ⟨#[]⟩), 1, 16) := by kernel_rfl
theorem underStrs : Tryd.prog.underlying 22 = some (.slice 9) := by kernel_rfl
theorem one_new {w : World} {g : Nat} {u : Value} (h : w.cell? ⟨g, 0, none⟩ = some u) : ∀ j v, [u][j]? = some v → w.cell? ((⟨g, 0, none⟩ : Addr).add j) = some v := by
  intro j v hj
  match j, hj with
  | 0, hj => simp at hj; subst hj; simpa [Addr.add] using h
/-- what a call of All leaves -/
def AllLeft (w : World) (l : List ByteArray) (a : Nat) (e : Ending) (w' : World) : Prop :=
  ∃ v, e = .returned (.tuple #[v, .int .i64 a]) ∧ w'.ownsRow w.heap.size 9 1 v l.length (l.map Value.string) ∧ w.Plus w'
theorem all_any (s : ByteArray) (w : World) (hT : Nib w) (hs : s.size ≤ 1000000) :
    Calls Tryd.prog 17 #[.string s] w (AllLeft w (allOf s 0).1 (allOf s 0).2) := by
  obtain ⟨i0, hi0, hz0, hz1, hz2⟩ := info_parts infoStr
  go_enter Tryd.func17, Tryd.ntmps17
  go_wp2
  go_loopw [4, 5, 6, 7, 8, 9] (fun v i t x e r wr => ∃ (l : List ByteArray) (a : Nat), AllRel s l a ∧ i = .int .i64 a ∧ wr.ownsRow w.heap.size 9 1 v l.length (l.map Value.string) ∧ w.Plus wr) (fun _ i _ _ _ _ _ => s.size - (intOf i).toNat)
  case atStart => exact ⟨[], 0, AllRel.start s, rfl, World.ownsRow_nil _ _ _ _, by (repeat (first | exact Plus.refl _ | apply Plus.plus | apply Plus.alloc | apply Plus.drew))⟩
  case round =>
    obtain ⟨l, a, hrel, rfl, hown, hp⟩ := hrel
    have hTr := hT.plus hp
    have hle := hrel.le
    have hlen := hrel.len
    by_cases hc : code s a = 0
    · have hV : firstV s a = .tuple #[.string (txt (part s (a + 3) (num s a))), .int .i64 ((a + 7 + num s a : Nat) : Int), .int .i64 0] := by simp [firstV, hc]
      have hnext := hrel.next hc
      have h3 := code_zero hc
      generalize hx : txt (part s (a + 3) (num s a)) = x at hV hnext
      generalize hb : a + 7 + num s a = b at hV hnext
      have hF := first_any s a wr hTr hs hle
      rw [hV] at hF
      clear hV
      replace hx := Lib.hid hx
      replace hb := Lib.hid hb
      replace hc := Lib.hid hc
      go_wp2_with (first
        | (go_at_call 15; (with_reducible refine hF.mono ?_); rintro e w' ⟨rfl, ey, rfl⟩)
        | (at_builtin; refine wpList_append_own _ rfl _ _ 22 rfl w.heap.size 9 i0 (.string ⟨#[]⟩) 1 16 underStrs hi0 hz0 hz1 hz2 rfl (by decide) _ _ _ rfl ((hown.plus _).alloc _) _ 1 1 [.string x] rfl rfl
            (one_new (by simp [go_sem])) (by intro u hu; simp at hu; subst hu; rfl) (by unfold maxLen; omega) (by omega) (by have := (Plus.below hp).size; simp [go_sem]; omega) ?_; intro v' w1 hown1 hgrow1 _)
        | fail)
      refine ⟨⟨l ++ [x], b, hnext, rfl, by simpa using hown1, World.grownBy.toPlus (Plus.alloc (Plus.plus hp _) _) hgrow1 (fun k hk => (hown.lt k hk).1)⟩, ?_⟩
      have := hb.out
      simp [intOf]; omega
    · have hV : firstV s a = .tuple #[.string (txt []), .int .i64 0, .int .i64 ((code s a : Nat) : Int)] := by simp [firstV, hc]
      have hend := hrel.stop hc
      have hF := first_any s a wr hTr hs hle
      rw [hV] at hF
      clear hV
      have hc0 : ¬ ((code s a : Nat) : Int) = 0 := by omega
      have hc1 : (((code s a : Nat) : Int) == 0) = false := by simp; omega
      generalize ((code s a : Nat) : Int) = k at hc0 hc1 hF
      replace hc := Lib.hid hc
      replace hend := Lib.hid hend
      go_wp2_with (first
        | (go_at_call 15; (with_reducible refine hF.mono ?_); rintro e w' ⟨rfl, ey, rfl⟩)
        | fail)
      have he := hend.out
      refine bodyPost_ret (v := .tuple #[u4, .int .i64 a]) (by simp [results, Tryd.results17, go_sem]) rfl ⟨u4, by rw [he], by rw [he]; exact hown.plus _, Plus.plus hp _⟩
theorem ref_all_any (s : ByteArray) (w : World) (hs : s.size ≤ 1000000) :
    Calls Tryd.prog 18 #[.string s] w (AllLeft w (allOf s 0).1 (allOf s 0).2) := by
  obtain ⟨i0, hi0, hz0, hz1, hz2⟩ := info_parts infoStr
  have hshape : ∀ a, ∃ (y : ByteArray) (n k : Int), firstV s a = .tuple #[.string y, .int .i64 n, .int .i64 k] := fun a => by
    unfold firstV
    split
    · exact ⟨_, _, _, rfl⟩
    · exact ⟨_, _, _, rfl⟩
  obtain ⟨y0, n0, k0, hV0⟩ := hshape 0
  have hF0 : ∀ w, Calls Tryd.prog 16 #[.string s, .int .i64 0] w fun e w' => e = .returned (firstV s 0) ∧ w.Plus w' := fun w => ref_first_any s 0 w hs (Nat.zero_le _)
  rw [hV0] at hF0
  replace hV0 := Lib.hid hV0
  replace hshape := Lib.hid hshape
  go_enter Tryd.func18, Tryd.ntmps18
  go_wp2_with (first
    | (go_at_call 16; (with_reducible refine (hF0 _).mono ?_); rintro e w' ⟨rfl, ey, rfl⟩)
    | fail)
  go_loopw [4, 5, 6, 7, 8] (fun v i t x e wr => ∃ (l : List ByteArray) (a : Nat), AllRel s l a ∧ i = .int .i64 a ∧ .tuple #[t, x, e] = firstV s a ∧ wr.ownsRow w.heap.size 9 1 v l.length (l.map Value.string) ∧ w.Plus wr) (fun _ i _ _ _ _ => s.size - (intOf i).toNat)
  case atStart => exact ⟨[], 0, AllRel.start s, rfl, hV0.out.symm, World.ownsRow_nil _ _ _ _, by (repeat (first | exact Plus.refl _ | apply Plus.plus | apply Plus.alloc | apply Plus.drew))⟩
  case round =>
    obtain ⟨l, a, hrel, rfl, hf, hown, hp⟩ := hrel
    have hle := hrel.le
    have hlen := hrel.len
    by_cases hc : code s a = 0
    · have hV : firstV s a = .tuple #[.string (txt (part s (a + 3) (num s a))), .int .i64 ((a + 7 + num s a : Nat) : Int), .int .i64 0] := by simp [firstV, hc]
      rw [hV] at hf
      have hnext := hrel.next hc
      have h3 := code_zero hc
      generalize hx : txt (part s (a + 3) (num s a)) = x at hf hnext
      generalize hb : a + 7 + num s a = b at hf hnext
      clear hV
      simp only [Value.tuple.injEq, Array.mk.injEq, List.cons.injEq, and_true] at hf
      obtain ⟨rfl, rfl, rfl⟩ := hf
      obtain ⟨y, n, k, hV⟩ := hshape.out b
      have hF : ∀ w, Calls Tryd.prog 16 #[.string s, .int .i64 b] w fun e w' => e = .returned (firstV s b) ∧ w.Plus w' := fun w => ref_first_any s b w hs (by omega)
      rw [hV] at hF
      replace hV := Lib.hid hV
      replace hx := Lib.hid hx
      replace hb := Lib.hid hb
      replace hc := Lib.hid hc
      go_wp2_with (first
        | (go_at_call 16; (with_reducible refine (hF _).mono ?_); rintro e w' ⟨rfl, ez, rfl⟩)
        | (at_builtin; refine wpList_append_own _ rfl _ _ 22 rfl w.heap.size 9 i0 (.string ⟨#[]⟩) 1 16 underStrs hi0 hz0 hz1 hz2 rfl (by decide) _ _ _ rfl (hown.alloc _) _ 1 1 [.string x] rfl rfl
            (one_new (by simp [go_sem])) (by intro u hu; simp at hu; subst hu; rfl) (by unfold maxLen; omega) (by omega) (by have := (Plus.below hp).size; simp [go_sem]; omega) ?_; intro v' w1 hown1 hgrow1 _)
        | fail)
      have hp1 := World.grownBy.toPlus (Plus.alloc hp _) hgrow1 (fun k hk => (hown.lt k hk).1)
      refine ⟨⟨l ++ [x], b, hnext, rfl, hV.out.symm, by simpa using hown1.plus _, Plus.plus hp1 _⟩, ?_⟩
      have := hb.out
      simp [intOf]; omega
    · have hV : firstV s a = .tuple #[.string (txt []), .int .i64 0, .int .i64 ((code s a : Nat) : Int)] := by simp [firstV, hc]
      rw [hV] at hf
      have hend := hrel.stop hc
      have hc0 : ¬ ((code s a : Nat) : Int) = 0 := by omega
      have hc1 : (((code s a : Nat) : Int) == 0) = false := by simp; omega
      generalize ((code s a : Nat) : Int) = k at hc0 hc1 hf
      simp only [Value.tuple.injEq, Array.mk.injEq, List.cons.injEq, and_true] at hf
      obtain ⟨rfl, rfl, rfl⟩ := hf
      clear hV
      replace hc := Lib.hid hc
      replace hend := Lib.hid hend
      go_wp2
      have he := hend.out
      refine bodyPost_ret (v := .tuple #[u4, .int .i64 a]) (by simp [results, Tryd.results18, go_sem]) rfl ⟨u4, by rw [he], by rw [he]; exact hown, hp⟩
end Go.Proofs.YtgckipebgcmhlaaDoor
