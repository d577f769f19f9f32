/- Plain laws and walks: CodDa, CodMw. -/
import Derived.Test.YtpdlgflbcgemnaaGreatDoorGl
import Derived.Test.YtpdlgflbcgemnaaGreatDoorGm
import Derived.Test.YtpdlgflbcgemnaaGreatDoorCodMe
import Derived.Test.YtpdlgflbcgemnaaGreatDoorGD
-- CodDa
/- codec: Decode, the reference's: contracts. -/
set_option linter.unusedSimpArgs false
set_option linter.unusedVariables false
namespace Go.Proofs.YtpdlgflbcgemnaaGreatDoor
open Go.RowKit Octs
theorem decM_fin (s : ByteArray) : decM s = finM (rawM s).1 (rawM s).2.1 (rawM s).2.2 := rfl
theorem decode_any {W wx : World} {l : List Asn} (O : Own W wx l) (s : ByteArray) (hs : s.size ≤ 281474976710656) : Calls Tryz.prog 13 #[.string s] wx (DecPost W l (decM s)) := by
  rcases h1 : rInt s false with ⟨k, s1, e1⟩
  rw [decM_fin]
  by_cases hk : 1 ≤ k ∧ k ≤ 12
  · rcases (by omega : k = 1 ∨ k = 2 ∨ k = 3 ∨ k = 4 ∨ k = 5 ∨ k = 6 ∨ k = 7 ∨ k = 8 ∨ k = 9 ∨ k = 10 ∨ k = 11 ∨ k = 12) with rfl | rfl | rfl | rfl | rfl | rfl | rfl | rfl | rfl | rfl | rfl | rfl
    · skip
      rcases h2 : rInt s1 e1 with ⟨t, s2, e2⟩
      rcases h3 : readL tkC s2 e2 64 with ⟨xs, s3, e3⟩
      have f1 : fT 1 = true := rfl
      have f2 : fN 1 = false := rfl
      have f3 : fC 1 = true := rfl
      have f4 : fB 1 = false := rfl
      have f5 : fI 1 = false := rfl
      have e : rawM s = ((⟨1, t, 0, xs, [], []⟩ : MsgR), s3, e3) := by
        unfold rawM rdI rdL
        simp only [h1, f1, f2, f3, f4, f5, if_true, Bool.false_eq_true, if_false, h2, h3]
      rw [e]
      have kO := fun w => of_any 1 w
      rw [f1, f2, f3, f4, f5] at kO
      exact decCore_1 O s hs 1 t xs s1 s2 s3 e1 e2 e3 h1 h2 h3 _ kO
    · skip
      rcases h2 : rInt s1 e1 with ⟨t, s2, e2⟩
      have f1 : fT 2 = true := rfl
      have f2 : fN 2 = false := rfl
      have f3 : fC 2 = false := rfl
      have f4 : fB 2 = false := rfl
      have f5 : fI 2 = false := rfl
      have e : rawM s = ((⟨2, t, 0, [], [], []⟩ : MsgR), s2, e2) := by
        unfold rawM rdI rdL
        simp only [h1, f1, f2, f3, f4, f5, if_true, Bool.false_eq_true, if_false, h2]
      rw [e]
      have kO := fun w => of_any 2 w
      rw [f1, f2, f3, f4, f5] at kO
      exact decCore_2 O s hs 2 t s1 s2 e1 e2 h1 h2 _ kO
    · skip
      rcases h2 : rInt s1 e1 with ⟨t, s2, e2⟩
      have f1 : fT 3 = true := rfl
      have f2 : fN 3 = false := rfl
      have f3 : fC 3 = false := rfl
      have f4 : fB 3 = false := rfl
      have f5 : fI 3 = false := rfl
      have e : rawM s = ((⟨3, t, 0, [], [], []⟩ : MsgR), s2, e2) := by
        unfold rawM rdI rdL
        simp only [h1, f1, f2, f3, f4, f5, if_true, Bool.false_eq_true, if_false, h2]
      rw [e]
      have kO := fun w => of_any 3 w
      rw [f1, f2, f3, f4, f5] at kO
      exact decCore_2 O s hs 3 t s1 s2 e1 e2 h1 h2 _ kO
    · skip
      rcases h2 : rInt s1 e1 with ⟨t, s2, e2⟩
      rcases h3 : readL tkI s2 e2 1024 with ⟨xs, s3, e3⟩
      have f1 : fT 4 = true := rfl
      have f2 : fN 4 = false := rfl
      have f3 : fC 4 = false := rfl
      have f4 : fB 4 = false := rfl
      have f5 : fI 4 = true := rfl
      have e : rawM s = ((⟨4, t, 0, [], [], xs⟩ : MsgR), s3, e3) := by
        unfold rawM rdI rdL
        simp only [h1, f1, f2, f3, f4, f5, if_true, Bool.false_eq_true, if_false, h2, h3]
      rw [e]
      have kO := fun w => of_any 4 w
      rw [f1, f2, f3, f4, f5] at kO
      exact decCore_4 O s hs 4 t xs s1 s2 s3 e1 e2 e3 h1 h2 h3 _ kO
    · skip
      rcases h2 : rInt s1 e1 with ⟨t, s2, e2⟩
      have f1 : fT 5 = true := rfl
      have f2 : fN 5 = false := rfl
      have f3 : fC 5 = false := rfl
      have f4 : fB 5 = false := rfl
      have f5 : fI 5 = false := rfl
      have e : rawM s = ((⟨5, t, 0, [], [], []⟩ : MsgR), s2, e2) := by
        unfold rawM rdI rdL
        simp only [h1, f1, f2, f3, f4, f5, if_true, Bool.false_eq_true, if_false, h2]
      rw [e]
      have kO := fun w => of_any 5 w
      rw [f1, f2, f3, f4, f5] at kO
      exact decCore_2 O s hs 5 t s1 s2 e1 e2 h1 h2 _ kO
    · skip
      rcases h2 : rInt s1 e1 with ⟨t, s2, e2⟩
      have f1 : fT 6 = true := rfl
      have f2 : fN 6 = false := rfl
      have f3 : fC 6 = false := rfl
      have f4 : fB 6 = false := rfl
      have f5 : fI 6 = false := rfl
      have e : rawM s = ((⟨6, t, 0, [], [], []⟩ : MsgR), s2, e2) := by
        unfold rawM rdI rdL
        simp only [h1, f1, f2, f3, f4, f5, if_true, Bool.false_eq_true, if_false, h2]
      rw [e]
      have kO := fun w => of_any 6 w
      rw [f1, f2, f3, f4, f5] at kO
      exact decCore_2 O s hs 6 t s1 s2 e1 e2 h1 h2 _ kO
    · skip
      rcases h2 : rInt s1 e1 with ⟨n, s2, e2⟩
      rcases h3 : readL tkB s2 e2 1024 with ⟨xs, s3, e3⟩
      have f1 : fT 7 = false := rfl
      have f2 : fN 7 = true := rfl
      have f3 : fC 7 = false := rfl
      have f4 : fB 7 = true := rfl
      have f5 : fI 7 = false := rfl
      have e : rawM s = ((⟨7, 0, n, [], xs, []⟩ : MsgR), s3, e3) := by
        unfold rawM rdI rdL
        simp only [h1, f1, f2, f3, f4, f5, if_true, Bool.false_eq_true, if_false, h2, h3]
      rw [e]
      have kO := fun w => of_any 7 w
      rw [f1, f2, f3, f4, f5] at kO
      exact decCore_7 O s hs 7 n xs s1 s2 s3 e1 e2 e3 h1 h2 h3 _ kO
    · skip
      rcases h2 : rInt s1 e1 with ⟨n, s2, e2⟩
      have f1 : fT 8 = false := rfl
      have f2 : fN 8 = true := rfl
      have f3 : fC 8 = false := rfl
      have f4 : fB 8 = false := rfl
      have f5 : fI 8 = false := rfl
      have e : rawM s = ((⟨8, 0, n, [], [], []⟩ : MsgR), s2, e2) := by
        unfold rawM rdI rdL
        simp only [h1, f1, f2, f3, f4, f5, if_true, Bool.false_eq_true, if_false, h2]
      rw [e]
      have kO := fun w => of_any 8 w
      rw [f1, f2, f3, f4, f5] at kO
      exact decCore_8 O s hs 8 n s1 s2 e1 e2 h1 h2 _ kO
    · skip
      rcases h2 : rInt s1 e1 with ⟨n, s2, e2⟩
      have f1 : fT 9 = false := rfl
      have f2 : fN 9 = true := rfl
      have f3 : fC 9 = false := rfl
      have f4 : fB 9 = false := rfl
      have f5 : fI 9 = false := rfl
      have e : rawM s = ((⟨9, 0, n, [], [], []⟩ : MsgR), s2, e2) := by
        unfold rawM rdI rdL
        simp only [h1, f1, f2, f3, f4, f5, if_true, Bool.false_eq_true, if_false, h2]
      rw [e]
      have kO := fun w => of_any 9 w
      rw [f1, f2, f3, f4, f5] at kO
      exact decCore_8 O s hs 9 n s1 s2 e1 e2 h1 h2 _ kO
    · skip
      rcases h2 : rInt s1 e1 with ⟨n, s2, e2⟩
      have f1 : fT 10 = false := rfl
      have f2 : fN 10 = true := rfl
      have f3 : fC 10 = false := rfl
      have f4 : fB 10 = false := rfl
      have f5 : fI 10 = false := rfl
      have e : rawM s = ((⟨10, 0, n, [], [], []⟩ : MsgR), s2, e2) := by
        unfold rawM rdI rdL
        simp only [h1, f1, f2, f3, f4, f5, if_true, Bool.false_eq_true, if_false, h2]
      rw [e]
      have kO := fun w => of_any 10 w
      rw [f1, f2, f3, f4, f5] at kO
      exact decCore_8 O s hs 10 n s1 s2 e1 e2 h1 h2 _ kO
    · skip
      rcases h2 : rInt s1 e1 with ⟨t, s2, e2⟩
      have f1 : fT 11 = true := rfl
      have f2 : fN 11 = false := rfl
      have f3 : fC 11 = false := rfl
      have f4 : fB 11 = false := rfl
      have f5 : fI 11 = false := rfl
      have e : rawM s = ((⟨11, t, 0, [], [], []⟩ : MsgR), s2, e2) := by
        unfold rawM rdI rdL
        simp only [h1, f1, f2, f3, f4, f5, if_true, Bool.false_eq_true, if_false, h2]
      rw [e]
      have kO := fun w => of_any 11 w
      rw [f1, f2, f3, f4, f5] at kO
      exact decCore_2 O s hs 11 t s1 s2 e1 e2 h1 h2 _ kO
    · skip
      rcases h2 : rInt s1 e1 with ⟨t, s2, e2⟩
      rcases h3 : readL tkB s2 e2 1024 with ⟨xs, s3, e3⟩
      have f1 : fT 12 = true := rfl
      have f2 : fN 12 = false := rfl
      have f3 : fC 12 = false := rfl
      have f4 : fB 12 = true := rfl
      have f5 : fI 12 = false := rfl
      have e : rawM s = ((⟨12, t, 0, [], xs, []⟩ : MsgR), s3, e3) := by
        unfold rawM rdI rdL
        simp only [h1, f1, f2, f3, f4, f5, if_true, Bool.false_eq_true, if_false, h2, h3]
      rw [e]
      have kO := fun w => of_any 12 w
      rw [f1, f2, f3, f4, f5] at kO
      exact decCore_12 O s hs 12 t xs s1 s2 s3 e1 e2 e3 h1 h2 h3 _ kO
  · skip
    have f1 : fT k = false := by unfold fT; simp; omega
    have f2 : fN k = false := by unfold fN; simp; omega
    have f3 : fC k = false := by unfold fC; simp; omega
    have f4 : fB k = false := by unfold fB; simp; omega
    have f5 : fI k = false := by unfold fI; simp; omega
    have e : rawM s = ((⟨k, 0, 0, [], [], []⟩ : MsgR), s1, e1) := by
      unfold rawM rdI rdL
      simp only [h1, f1, f2, f3, f4, f5, if_true, Bool.false_eq_true, if_false]
    rw [e]
    have kO := fun w => of_any k w
    rw [f1, f2, f3, f4, f5] at kO
    exact decCore_0 O s hs k s1 e1 h1 _ kO
end Go.Proofs.YtpdlgflbcgemnaaGreatDoor
-- CodMw
/- codec: messages that are read as data; CodecMsgs, CodecReads, CodecOnly: walks. -/
set_option linter.unusedSimpArgs false
set_option linter.unusedVariables false
namespace Go.Proofs.YtpdlgflbcgemnaaGreatDoor
open Go.RowKit Octs
abbrev msTy : Ty := .pair (.int .i64) (.pair (.int .i64) (.pair (.int .i64) (.pair (.slice 128 cmTy) (.pair (.slice 88 bdTy) (.pair (.slice 24 idTy) .unit)))))
abbrev mCs (m : MsgR) (a : MAt) : List Value := [nI m.kind, nI m.t, nI m.n, .slice a.Ac m.cs.length a.cc, .slice a.Ab m.bs.length a.cb, .slice a.Ai m.is.length a.ci]
theorem open_msg {w : World} {x : msTy.El} {cs : List Value} (h : Holds w msTy x cs) : ∃ (m : MsgR) (a : MAt), cs = mCs m a ∧ MRows w m a := by
  obtain ⟨c1, r1, rfl, -, h1, h⟩ := h
  obtain ⟨c2, r2, rfl, -, h2, h⟩ := h
  obtain ⟨c3, r3, rfl, -, h3, h⟩ := h
  obtain ⟨c4, r4, rfl, -, h4, h⟩ := h
  obtain ⟨c5, r5, rfl, -, h5, h⟩ := h
  obtain ⟨c6, r6, rfl, -, h6, h⟩ := h
  obtain ⟨rfl, -⟩ := h1
  obtain ⟨rfl, -⟩ := h2
  obtain ⟨rfl, -⟩ := h3
  obtain ⟨Ac, cc, ds, rfl, -, hc, -⟩ := openC h4
  obtain ⟨Ab, cb, bs, rfl, -, hb, -⟩ := openB h5
  obtain ⟨Ai, ci, is, rfl, -, hi, -⟩ := openI h6
  have h0 : r6 = [] := h
  subst h0
  exact ⟨⟨x.1, x.2.1, x.2.2.1, ds, bs, is⟩, ⟨Ac, Ab, Ai, cc, cb, ci⟩, rfl, hc, hb, hi⟩
set_option maxHeartbeats 1000000
set_option maxRecDepth 100000
theorem sameM_any (w : World) (m : MsgR) (a a' : MAt) (h : MRows w m a) (h' : MRows w m a') (l1 : m.cs.length ≤ 1048577) (l2 : m.bs.length ≤ 1048577) (l3 : m.is.length ≤ 1048577) :
    Calls Tryz.prog 14 #[mV m a, mV m a'] w fun e w' => e = .returned (.bool true) ∧ w.Plus w' := by
  have k1 := Lib.hid (fun wz (p : w.Plus wz) => sameC_any wz a.Ac a'.Ac a.cc a'.cc m.cs (h.c.plus p) (h'.c.plus p) l1)
  have k2 := Lib.hid (fun wz (p : w.Plus wz) => sameB_any wz a.Ab a'.Ab a.cb a'.cb m.bs (h.b.plus p) (h'.b.plus p) l2)
  have k3 := Lib.hid (fun wz (p : w.Plus wz) => sameI_any wz a.Ai a'.Ai a.ci a'.ci m.is (h.i.plus p) (h'.i.plus p) l3)
  clear h h' l1 l2 l3
  obtain ⟨k, t, n, cs, bs, is⟩ := m
  obtain ⟨Ac, Ab, Ai, cc, cb, ci⟩ := a
  obtain ⟨Ac', Ab', Ai', cc', cb', ci'⟩ := a'
  simp only [mV] at k1 k2 k3 ⊢
  generalize cs.length = x at *
  generalize bs.length = y at *
  generalize is.length = z at *
  go_enter Tryz.func14, Tryz.ntmps14
  go_wp2_with (first
    | (go_at_call 48; (with_reducible refine (k1.out _ (by (repeat (first | exact Plus.refl _ | apply Plus.plus | apply Plus.alloc | apply Plus.drew)))).mono ?_); rintro e w' ⟨rfl, e1, rfl⟩)
    | (go_at_call 49; (with_reducible refine (k2.out _ (by (repeat (first | exact Plus.refl _ | apply Plus.plus | apply Plus.alloc | apply Plus.drew)))).mono ?_); rintro e w' ⟨rfl, e2, rfl⟩)
    | (go_at_call 50; (with_reducible refine (k3.out _ (by (repeat (first | exact Plus.refl _ | apply Plus.plus | apply Plus.alloc | apply Plus.drew)))).mono ?_); rintro e w' ⟨rfl, e3, rfl⟩))
  go_ret
  exact ⟨rfl, by (repeat (first | exact Plus.refl _ | apply Plus.plus | apply Plus.alloc | apply Plus.drew))⟩
theorem okM_len {m : MsgR} (h : okM m = true) : m.cs.length ≤ 1048577 ∧ m.bs.length ≤ 1048577 ∧ m.is.length ≤ 1048577 := by
  obtain ⟨-, -, -, ⟨c1, -⟩, ⟨b1, -⟩, ⟨i1, -⟩⟩ := okM_parts h
  exact ⟨by omega, by omega, by omega⟩
theorem okM_long {m : MsgR} (h : longM m = true) : okM m = false := by
  cases ho : okM m with
  | false => rfl
  | true =>
    obtain ⟨-, -, -, ⟨c1, -⟩, ⟨b1, -⟩, ⟨i1, -⟩⟩ := okM_parts ho
    unfold longM at h
    simp at h
    omega
theorem decM_len (s : ByteArray) : (decM s).1.cs.length ≤ 1048577 ∧ (decM s).1.bs.length ≤ 1048577 ∧ (decM s).1.is.length ≤ 1048577 := by
  rcases decM_cases s with ⟨m, h1, h2, -⟩ | h1
  · rw [h1]; exact okM_len h2
  · rw [h1]; exact ⟨by decide, by decide, by decide⟩
end Go.Proofs.YtpdlgflbcgemnaaGreatDoor
