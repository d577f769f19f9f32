/- codec: messages: plain laws. -/
import Derived.Test.YtjfjecjigakdnaaCodQ3
set_option linter.unusedSimpArgs false
set_option linter.unusedVariables false
namespace Go.Proofs.Ytjfjecjigakdnaa.Octs
open Go.RowKit
/-- a message -/
structure MsgR where
  kind : Int
  t : Int
  n : Int
  cs : List CmdR
  bs : List BdR
  is : List IdR
abbrev msZ : MsgR := ⟨0, 0, 0, [], [], []⟩
/-- which fields has a kind? -/
def fK (k : Int) : Bool := decide (1 ≤ k) && decide (k ≤ 12)
def fT (k : Int) : Bool := (decide (1 ≤ k) && decide (k ≤ 6)) || decide (k = 11) || decide (k = 12)
def fN (k : Int) : Bool := decide (7 ≤ k) && decide (k ≤ 10)
def fC (k : Int) : Bool := decide (k = 1)
def fB (k : Int) : Bool := decide (k = 7) || decide (k = 12)
def fI (k : Int) : Bool := decide (k = 4)
def numB (has : Bool) (n : Int) : Bool := if has then decide (1 ≤ n) && decide (n ≤ 1099511627776) else decide (n = 0)
def allB {α : Type} (ok : α → Bool) (has : Bool) (xs : List α) (most : Nat) : Bool := (has || decide (xs.length = 0)) && decide (xs.length ≤ most) && xs.all ok
/-- may a message be? -/
def okM (m : MsgR) : Bool := fK m.kind && numB (fT m.kind) m.t && numB (fN m.kind) m.n && allB okC (fC m.kind) m.cs 64 && allB okB (fB m.kind) m.bs 1024 && allB idB (fI m.kind) m.is 1024 && !(decide (m.kind = 7) && decide (m.bs.length ≠ 1))
def encM (m : MsgR) : List UInt8 :=
  enc m.kind ++ ((if fT m.kind then enc m.t else []) ++ ((if fN m.kind then enc m.n else []) ++ ((if fC m.kind then encL encC m.cs else []) ++ ((if fB m.kind then encL encB m.bs else []) ++ (if fI m.kind then encL encI m.is else [])))))
def rdI (has : Bool) (s : ByteArray) (b : Bool) : Int × ByteArray × Bool := if has then rInt s b else (0, s, b)
def rdL {α : Type} (has : Bool) (tk : ByteArray → Bool → α × ByteArray × Bool) (s : ByteArray) (b : Bool) (most : Int) : List α × ByteArray × Bool := if has then readL tk s b most else ([], s, b)
def rawM (s : ByteArray) : MsgR × ByteArray × Bool :=
  let k := rInt s false
  let t := rdI (fT k.1) k.2.1 k.2.2
  let n := rdI (fN k.1) t.2.1 t.2.2
  let c := rdL (fC k.1) tkC n.2.1 n.2.2 64
  let b := rdL (fB k.1) tkB c.2.1 c.2.2 1024
  let i := rdL (fI k.1) tkI b.2.1 b.2.2 1024
  (⟨k.1, t.1, n.1, c.1, b.1, i.1⟩, i.2.1, i.2.2)
def decM (s : ByteArray) : MsgR × Int := if !(rawM s).2.2 && decide ((rawM s).2.1.size = 0) && okM (rawM s).1 then ((rawM s).1, 0) else (msZ, 2)
theorem rdI_back (has : Bool) (n : Int) (h : numB has n = true) (r : List UInt8) : rdI has (txt ((if has then enc n else []) ++ r)) false = (n, txt r, false) := by
  unfold rdI
  unfold numB at h
  cases has with
  | true =>
    simp only [if_true, Bool.and_eq_true, decide_eq_true_eq] at h ⊢
    rw [rInt_enc n (by unfold In64; omega)]
  | false =>
    simp only [Bool.false_eq_true, if_false, decide_eq_true_eq] at h ⊢
    rw [h]
    rfl
theorem rdL_back {α : Type} {ok : α → Bool} {en : α → List UInt8} {tk : ByteArray → Bool → α × ByteArray × Bool} (hb : Back ok en tk) (has : Bool) (xs : List α) (most : Nat) (hm : most ≤ 1024) (h : allB ok has xs most = true) (r : List UInt8) :
    rdL has tk (txt ((if has then encL en xs else []) ++ r)) false most = (xs, txt r, false) := by
  unfold allB at h
  simp only [Bool.and_eq_true, Bool.or_eq_true, decide_eq_true_eq, List.all_eq_true] at h
  obtain ⟨⟨h1, h2⟩, h3⟩ := h
  unfold rdL
  cases has with
  | true =>
    simp only [if_true]
    exact readL_back hb xs most (by omega) (by omega) r h3
  | false =>
    have : xs = [] := by
      rcases h1 with h1 | h1
      · cases h1
      · exact List.length_eq_zero_iff.1 h1
    subst this
    simp
theorem rawM_back (m : MsgR) (h : okM m = true) (r : List UInt8) : rawM (txt (encM m ++ r)) = (m, txt r, false) := by
  unfold okM at h
  simp only [Bool.and_eq_true] at h
  obtain ⟨⟨⟨⟨⟨⟨h1, h2⟩, h3⟩, h4⟩, h5⟩, h6⟩, h7⟩ := h
  have hk : In64 m.kind := by
    unfold fK at h1
    simp at h1
    unfold In64
    omega
  have b4 := rdL_back tkC_back (fC m.kind) m.cs 64 (by decide) h4
  have b5 := rdL_back tkB_back (fB m.kind) m.bs 1024 (by decide) h5
  have b6 := rdL_back tkI_back (fI m.kind) m.is 1024 (by decide) h6
  have b2 := rdI_back (fT m.kind) m.t h2
  have b3 := rdI_back (fN m.kind) m.n h3
  rw [show ((64 : Nat) : Int) = 64 from rfl] at b4
  rw [show ((1024 : Nat) : Int) = 1024 from rfl] at b5 b6
  unfold rawM encM
  simp only [List.append_assoc, rInt_enc _ hk, b2, b3, b4, b5, b6]
theorem rdI_only {has : Bool} {s : ByteArray} {b : Bool} {n : Int} {s' : ByteArray} (h : rdI has s b = (n, s', false)) : b = false ∧ bytes s = (if has then enc n else []) ++ bytes s' := by
  unfold rdI at h
  cases has with
  | true =>
    simp only [if_true] at h ⊢
    obtain rfl := rInt_stay _ _ _ _ h
    exact ⟨rfl, (rInt_only _ _ _ h).2⟩
  | false =>
    simp only [Bool.false_eq_true, if_false, Prod.mk.injEq] at h ⊢
    obtain ⟨-, rfl, rfl⟩ := h
    exact ⟨rfl, rfl⟩
theorem rdL_only {α : Type} {ok : α → Bool} {en : α → List UInt8} {tk : ByteArray → Bool → α × ByteArray × Bool} (ho : Only ok en tk) {has : Bool} {s : ByteArray} {b : Bool} {most : Int} {xs : List α} {s' : ByteArray} (h : rdL has tk s b most = (xs, s', false)) : b = false ∧ bytes s = (if has then encL en xs else []) ++ bytes s' := by
  unfold rdL at h
  cases has with
  | true =>
    simp only [if_true] at h ⊢
    obtain ⟨rfl, -, -, h4⟩ := readL_only ho h
    exact ⟨rfl, h4⟩
  | false =>
    simp only [Bool.false_eq_true, if_false, Prod.mk.injEq] at h ⊢
    obtain ⟨-, rfl, rfl⟩ := h
    exact ⟨rfl, rfl⟩
theorem rawM_only (s : ByteArray) (m : MsgR) (s' : ByteArray) (h : rawM s = (m, s', false)) : bytes s = encM m ++ bytes s' := by
  unfold rawM at h
  rcases h1 : rInt s false with ⟨k, s1, b1⟩
  rcases h2 : rdI (fT k) s1 b1 with ⟨t, s2, b2⟩
  rcases h3 : rdI (fN k) s2 b2 with ⟨n, s3, b3⟩
  rcases h4 : rdL (fC k) tkC s3 b3 64 with ⟨c, s4, b4⟩
  rcases h5 : rdL (fB k) tkB s4 b4 1024 with ⟨d, s5, b5⟩
  rcases h6 : rdL (fI k) tkI s5 b5 1024 with ⟨i, s6, b6⟩
  simp only [h1, h2, h3, h4, h5, h6, Prod.mk.injEq] at h
  obtain ⟨rfl, rfl, rfl⟩ := h
  obtain ⟨rfl, g6⟩ := rdL_only tkI_only h6
  obtain ⟨rfl, g5⟩ := rdL_only tkB_only h5
  obtain ⟨rfl, g4⟩ := rdL_only tkC_only h4
  obtain ⟨rfl, g3⟩ := rdI_only h3
  obtain ⟨rfl, g2⟩ := rdI_only h2
  have g1 := (rInt_only _ _ _ h1).2
  rw [g1, g2, g3, g4, g5, g6]
  unfold encM
  simp only [List.append_assoc]
theorem size_bytes (s : ByteArray) : s.size = (bytes s).length := by unfold bytes; rw [Array.length_toList]; rfl
/-- what was encoded is decoded again -/
theorem decM_back (m : MsgR) (h : okM m = true) : decM (txt (encM m)) = (m, 0) := by
  have := rawM_back m h []
  rw [List.append_nil] at this
  unfold decM
  rw [this]
  simp only [h]
  rfl
/-- with more behind it is none -/
theorem decM_more (m : MsgR) (h : okM m = true) (r : List UInt8) (hr : r ≠ []) : decM (txt (encM m ++ r)) = (msZ, 2) := by
  unfold decM
  rw [rawM_back m h r]
  have : ¬ (txt r).size = 0 := by rw [txt_size]; intro e; exact hr (List.length_eq_zero_iff.1 e)
  simp only [this, decide_false, Bool.and_false, Bool.false_and, Bool.false_eq_true, if_false]
theorem decM_cases (s : ByteArray) : (∃ m, decM s = (m, 0) ∧ okM m = true ∧ s = txt (encM m)) ∨ decM s = (msZ, 2) := by
  unfold decM
  split
  · rename_i hc
    simp only [Bool.and_eq_true, Bool.not_eq_true', decide_eq_true_eq] at hc
    obtain ⟨⟨h1, h2⟩, h3⟩ := hc
    refine .inl ⟨_, rfl, h3, ?_⟩
    have h4 := rawM_only s (rawM s).1 (rawM s).2.1 (by rw [← h1])
    have h5 : bytes (rawM s).2.1 = [] := List.length_eq_zero_iff.1 (by rw [← size_bytes]; exact h2)
    rw [h5, List.append_nil] at h4
    rw [← h4]
    rfl
  · exact .inr rfl
/-- no beginning of a message's bytes is one's -/
theorem decM_cut (m : MsgR) (h : okM m = true) (p r : List UInt8) (hr : r ≠ []) (he : encM m = p ++ r) : decM (txt p) = (msZ, 2) := by
  rcases decM_cases (txt p) with ⟨m', h1, h2, h3⟩ | h1
  · exfalso
    have hp : p = encM m' := by simpa [bytes_txt] using congrArg bytes h3
    have e1 := rawM_back m h []
    have e2 := rawM_back m' h2 r
    rw [List.append_nil, he, hp, e2] at e1
    simp only [Prod.mk.injEq, and_true] at e1
    have := txt_inj.1 e1.2
    exact hr this
  · exact h1
theorem encM_ne (m : MsgR) : encM m ≠ [] := by
  unfold encM enc
  simp
end Go.Proofs.Ytjfjecjigakdnaa.Octs
