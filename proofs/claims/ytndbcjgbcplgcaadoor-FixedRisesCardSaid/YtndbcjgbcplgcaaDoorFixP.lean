/- fixed: numbers with 256 parts to one, and their texts: plain laws. -/
import Derived.Test.YtndbcjgbcplgcaaDoorTxt
set_option linter.unusedSimpArgs false
set_option linter.unusedVariables false
namespace Go.Proofs.YtndbcjgbcplgcaaDoor
/-- the nearest number that may be -/
def fcl (n : Int) : Int := max (-1073741824) (min 1073741824 n)
theorem fcl_in (n : Int) : -1073741824 ≤ fcl n ∧ fcl n ≤ 1073741824 := by unfold fcl; omega
theorem fcl_id {n : Int} (h1 : -1073741824 ≤ n) (h2 : n ≤ 1073741824) : fcl n = n := by unfold fcl; omega
theorem fcl_fcl (n : Int) : fcl (fcl n) = fcl n := fcl_id (fcl_in n).1 (fcl_in n).2
theorem fcl_mono {a b : Int} (h : a ≤ b) : fcl a ≤ fcl b := by unfold fcl; omega
def dg (n : Nat) : UInt8 := UInt8.ofNat (48 + n)
theorem dg_val (n : Nat) (h : n < 10) : (dg n).toNat = 48 + n := by unfold dg; simp [UInt8.toNat_ofNat]; omega
/-- a number's digits -/
def decF : Nat → Nat → List UInt8
  | 0, _ => []
  | f + 1, n => if n < 10 then [dg n] else decF f (n / 10) ++ [dg (n % 10)]
def dec (n : Nat) : List UInt8 := decF 12 n
theorem decF_more : ∀ (f n : Nat), n < 10 ^ f → 0 < f → ∀ g, f ≤ g → decF g n = decF f n
  | 0, _, _, h0, _, _ => absurd h0 (by omega)
  | f + 1, n, h, _, g, hg => by
    obtain ⟨g', rfl⟩ : ∃ g', g = g' + 1 := ⟨g - 1, by omega⟩
    unfold decF
    by_cases h10 : n < 10
    · rw [if_pos h10, if_pos h10]
    · rw [if_neg h10, if_neg h10]
      cases f with
      | zero => rw [Nat.zero_add, Nat.pow_one] at h; omega
      | succ f =>
        rw [decF_more (f + 1) (n / 10) (by rw [Nat.pow_succ] at h; omega) (by omega) g' (by omega)]
theorem dec_small {n : Nat} (h : n < 10) : dec n = [dg n] := by
  show (if n < 10 then [dg n] else _) = _
  rw [if_pos h]
theorem dec_step {n : Nat} (h : 10 ≤ n) (h2 : n < 1000000000000) : dec n = dec (n / 10) ++ [dg (n % 10)] := by
  show (if n < 10 then [dg n] else decF 11 (n / 10) ++ [dg (n % 10)]) = _
  rw [if_neg (by omega)]
  unfold dec
  rw [decF_more 11 (n / 10) (by omega) (by omega) 12 (by omega)]
theorem dec_len_pos (n : Nat) : 0 < (dec n).length := by
  show 0 < (if n < 10 then [dg n] else decF 11 (n / 10) ++ [dg (n % 10)]).length
  split <;> simp
theorem dec_len7 {n : Nat} (h : n < 10000000) : (dec n).length ≤ 7 := by
  have hl : ∀ f n, (decF f n).length ≤ f := by
    intro f
    induction f with
    | zero => intro n; simp [decF]
    | succ f ih =>
      intro n
      unfold decF
      split
      · simp
      · have := ih (n / 10)
        simp; omega
  unfold dec
  rw [decF_more 7 n (by omega) (by omega) 12 (by omega)]
  exact hl 7 n
theorem dec_len12 (n : Nat) : (dec n).length ≤ 12 := by
  have hl : ∀ f n, (decF f n).length ≤ f := by
    intro f
    induction f with
    | zero => intro n; simp [decF]
    | succ f ih =>
      intro n
      unfold decF
      split
      · simp
      · have := ih (n / 10)
        simp; omega
  exact hl 12 n
def isDig (c : UInt8) : Bool := 48 ≤ c.toNat && c.toNat ≤ 57
theorem isDig_dg {n : Nat} (h : n < 10) : isDig (dg n) = true := by unfold isDig; rw [dg_val n h]; simp; omega
theorem decF_dig : ∀ (f n : Nat), (decF f n).all isDig = true
  | 0, _ => rfl
  | f + 1, n => by
    unfold decF
    split
    · simp [isDig_dg (by assumption)]
    · rw [List.all_append, decF_dig f (n / 10)]
      simp [isDig_dg (show n % 10 < 10 by omega)]
theorem dec_dig (n : Nat) : (dec n).all isDig = true := decF_dig 12 n
/-- what digits say -/
def numl (l : List UInt8) : Nat := l.foldl (fun a c => 10 * a + (c.toNat - 48)) 0
theorem numl_snoc (l : List UInt8) (c : UInt8) : numl (l ++ [c]) = 10 * numl l + (c.toNat - 48) := by simp [numl]
theorem numl_le : ∀ (l : List UInt8), l.all isDig = true → numl l < 10 ^ l.length := by
  intro l
  suffices H : ∀ (l : List UInt8) (a k : Nat), a < 10 ^ k → l.all isDig = true → l.foldl (fun a c => 10 * a + (c.toNat - 48)) a < 10 ^ (k + l.length) by
    intro h
    have := H l 0 0 (by decide) h
    simpa [numl] using this
  intro l
  induction l with
  | nil => intro a k h _; simpa using h
  | cons c l ih =>
    intro a k h hd
    simp only [List.all_cons, Bool.and_eq_true] at hd
    have hc : c.toNat - 48 < 10 := by have := hd.1; unfold isDig at this; simp at this; omega
    have h1 : 10 * a + (c.toNat - 48) < 10 ^ (k + 1) := by rw [Nat.pow_succ]; omega
    have := ih _ (k + 1) h1 hd.2
    simp only [List.foldl_cons, List.length_cons]
    rw [show k + (l.length + 1) = k + 1 + l.length by omega]
    exact this
theorem numl_dec {n : Nat} (h : n < 1000000000000) : numl (dec n) = n := by
  have H : ∀ f n, n < 10 ^ f → 0 < f → numl (decF f n) = n := by
    intro f
    induction f with
    | zero => intro n _ h; omega
    | succ f ih =>
      intro n h _
      unfold decF
      by_cases h10 : n < 10
      · rw [if_pos h10]
        show 10 * 0 + ((dg n).toNat - 48) = n
        rw [dg_val n h10]; omega
      · rw [if_neg h10, numl_snoc, dg_val (n % 10) (by omega)]
        cases f with
        | zero => rw [Nat.zero_add, Nat.pow_one] at h; omega
        | succ f => rw [ih (n / 10) (by rw [Nat.pow_succ] at h; omega) (by omega)]; omega
  exact H 12 n (by omega) (by omega)
/-- the digits of parts of 256 -/
def fracF : Nat → Nat → List UInt8
  | 0, _ => []
  | f + 1, r => if r = 0 then [] else dg (r * 10 / 256) :: fracF f (r * 10 % 256)
def frac (r : Nat) : List UInt8 := fracF 9 r
def trimZ (l : List UInt8) : List UInt8 := (l.reverse.dropWhile (· == 48)).reverse
theorem frac_trim (r : Nat) (h : r < 256) : trimZ ((dec (100000000 + r * 390625)).drop 1) = frac r := by
  have H : ∀ r : Fin 256, trimZ ((dec (100000000 + r.val * 390625)).drop 1) = frac r.val := by decide +kernel
  exact H ⟨r, h⟩
theorem frac_facts (r : Nat) (h : r < 256) : (frac r).length ≤ 8 ∧ (frac r).all isDig = true ∧ numl (frac r) * 10 ^ (8 - (frac r).length) / 390625 = r ∧ 256 * numl (frac r) / 10 ^ (frac r).length = r ∧ (r = 0 ↔ frac r = []) := by
  have H : ∀ r : Fin 256, (frac r.val).length ≤ 8 ∧ (frac r.val).all isDig = true ∧ numl (frac r.val) * 10 ^ (8 - (frac r.val).length) / 390625 = r.val ∧ 256 * numl (frac r.val) / 10 ^ (frac r.val).length = r.val ∧ (r.val = 0 ↔ frac r.val = []) := by decide +kernel
  exact H ⟨r, h⟩
/-- a number from 0 on as text -/
def showN (n : Nat) : List UInt8 := if n % 256 = 0 then dec (n / 256) else dec (n / 256) ++ 46 :: frac (n % 256)
def showL (n : Int) : List UInt8 := if fcl n < 0 then 45 :: showN (-fcl n).toNat else showN (fcl n).toNat
theorem showL_fcl (n : Int) : showL (fcl n) = showL n := by unfold showL; rw [fcl_fcl]
/-- the two parts of a text -/
def dotAt (l : List UInt8) : Int := Lib.indexByte l 46
def wholeOf (l : List UInt8) : List UInt8 := if dotAt l < 0 then l else l.take (dotAt l).toNat
def partOf (l : List UInt8) : List UInt8 := if dotAt l < 0 then [] else l.drop ((dotAt l).toNat + 1)
def numOk (l : List UInt8) (most : Nat) : Bool := decide (l.length ≤ most) && l.all isDig
def bare (l : List UInt8) : List UInt8 := if l.head? = some 45 then l.drop 1 else l
def valP (t : List UInt8) : Nat := numl (wholeOf t) * 256 + numl (partOf t) * 10 ^ (8 - (partOf t).length) / 390625
def sgnd (l : List UInt8) (n : Nat) : Int := if l.head? = some 45 then -(n : Int) else n
def okP (l : List UInt8) : Bool := numOk (wholeOf (bare l)) 7 && (!(wholeOf (bare l)).isEmpty && numOk (partOf (bare l)) 8)
/-- what Read answers -/
def readP (l : List UInt8) : Int × Int :=
  if okP l = true ∧ showL (sgnd l (valP (bare l))) = l then (sgnd l (valP (bare l)), 0) else (0, 2)
theorem index_none : ∀ (l : List UInt8) (c : UInt8), c ∉ l → Lib.indexByte l c = -1
  | [], _, _ => rfl
  | b :: l, c, h => by
    simp only [List.mem_cons, not_or] at h
    simp only [Lib.indexByte]
    rw [if_neg (by simpa using fun e => h.1 e.symm), if_pos (by simpa using index_none l c h.2)]
theorem index_at : ∀ (l m : List UInt8) (c : UInt8), c ∉ l → Lib.indexByte (l ++ c :: m) c = (l.length : Int)
  | [], m, c, _ => by simp [Lib.indexByte]
  | b :: l, m, c, h => by
    simp only [List.mem_cons, not_or] at h
    simp only [List.cons_append, Lib.indexByte]
    rw [if_neg (by simpa using fun e => h.1 e.symm), index_at l m c h.2, if_neg (by simp)]
    simp
theorem dig_not46 {l : List UInt8} (h : l.all isDig = true) : (46 : UInt8) ∉ l := fun hm => by
  have := List.all_eq_true.1 h _ hm
  exact absurd this (by decide)
theorem split_bare (q : List UInt8) (hq : q.all isDig = true) : wholeOf q = q ∧ partOf q = [] := by
  have : dotAt q = -1 := index_none q 46 (dig_not46 hq)
  unfold wholeOf partOf
  rw [this]
  simp
theorem split_dot (q m : List UInt8) (hq : q.all isDig = true) : wholeOf (q ++ 46 :: m) = q ∧ partOf (q ++ 46 :: m) = m := by
  have : dotAt (q ++ 46 :: m) = q.length := index_at q m 46 (dig_not46 hq)
  unfold wholeOf partOf
  rw [this, if_neg (by omega), if_neg (by omega)]
  simp
theorem head_dig {l : List UInt8} (h : l.all isDig = true) : l.head? ≠ some 45 := by
  cases l with
  | nil => simp
  | cons c l =>
    simp only [List.all_cons, Bool.and_eq_true] at h
    simp only [List.head?_cons, ne_eq, Option.some.injEq]
    rintro rfl
    exact absurd h.1 (by decide)
theorem showN_head (n : Nat) : (showN n).head? ≠ some 45 := by
  have hd := head_dig (dec_dig (n / 256))
  have hp := dec_len_pos (n / 256)
  unfold showN
  split
  · exact hd
  · cases h : dec (n / 256) with
    | nil => rw [h] at hp; simp at hp
    | cons c l => rw [h] at hd; simpa using hd
theorem showN_facts (n : Nat) (h : n ≤ 1073741824) : numOk (wholeOf (showN n)) 7 = true ∧ wholeOf (showN n) ≠ [] ∧ numOk (partOf (showN n)) 8 = true ∧ valP (showN n) = n := by
  have hq := dec_dig (n / 256)
  have hl := dec_len7 (n := n / 256) (by omega)
  have hp := dec_len_pos (n / 256)
  have hn := numl_dec (n := n / 256) (by omega)
  have hne : dec (n / 256) ≠ [] := by intro e; rw [e] at hp; simp at hp
  unfold valP showN
  by_cases h0 : n % 256 = 0
  · rw [if_pos h0, (split_bare _ hq).1, (split_bare _ hq).2, hn]
    refine ⟨by unfold numOk; simp [hl, hq], hne, rfl, ?_⟩
    have : numl [] = 0 := rfl
    rw [this]; simp; omega
  · obtain ⟨f1, f2, f3, _, _⟩ := frac_facts (n % 256) (by omega)
    rw [if_neg h0, (split_dot _ _ hq).1, (split_dot _ _ hq).2, hn, f3]
    refine ⟨by unfold numOk; simp [hl, hq], hne, by unfold numOk; simp [f1, f2], by omega⟩
/-- whatever is shown is read again -/
theorem read_show (m : Int) (h1 : -1073741824 ≤ m) (h2 : m ≤ 1073741824) : readP (showL m) = (m, 0) := by
  have hc := fcl_id h1 h2
  have hb : bare (showL m) = showN m.natAbs ∧ (∀ k, sgnd (showL m) k = if m < 0 then -(k : Int) else k) := by
    unfold showL
    rw [hc]
    by_cases hn : m < 0
    · rw [if_pos hn]
      refine ⟨?_, fun k => ?_⟩
      · unfold bare; simp; congr 1; omega
      · unfold sgnd; simp [hn]
    · rw [if_neg hn]
      have := showN_head m.toNat
      refine ⟨?_, fun k => ?_⟩
      · unfold bare; rw [if_neg this]; congr 1; omega
      · unfold sgnd; rw [if_neg this, if_neg hn]
  obtain ⟨hb1, hb2⟩ := hb
  obtain ⟨f1, f2, f3, f4⟩ := showN_facts m.natAbs (by omega)
  have hv : sgnd (showL m) (valP (bare (showL m))) = m := by rw [hb1, f4, hb2]; split <;> omega
  have hok : okP (showL m) = true := by
    unfold okP
    rw [hb1, f1, f3]
    simp [f2]
  unfold readP
  rw [hv, if_pos ⟨hok, rfl⟩]
/-- any reader that reads all that is shown, and nothing else, reads as Read does -/
theorem read_only (r : List UInt8 → Int × Int) (hs : ∀ m, -1073741824 ≤ m → m ≤ 1073741824 → r (showL m) = (m, 0)) (hb : ∀ l, r l = (0, 2) ∨ ∃ v, showL v = l) (l : List UInt8) : r l = readP l := by
  by_cases h : ∃ v, showL v = l
  · obtain ⟨v, hv⟩ := h
    have hv2 : showL (fcl v) = l := by rw [showL_fcl]; exact hv
    rw [← hv2, hs _ (fcl_in v).1 (fcl_in v).2, read_show _ (fcl_in v).1 (fcl_in v).2]
  · rcases hb l with h1 | h1
    · rw [h1]
      unfold readP
      rw [if_neg fun h2 => h ⟨_, h2.2⟩]
    · exact absurd h1 h
end Go.Proofs.YtndbcjgbcplgcaaDoor
