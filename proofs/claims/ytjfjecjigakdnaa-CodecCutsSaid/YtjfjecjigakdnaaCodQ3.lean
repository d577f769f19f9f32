/- codec: commands and lists that were laid are read again, and only these: plain laws. -/
import Derived.Test.YtjfjecjigakdnaaCodQ2
set_option linter.unusedSimpArgs false
set_option linter.unusedVariables false
namespace Go.Proofs.Ytjfjecjigakdnaa.Octs
open Go.RowKit
theorem in64 {n : Int} (h : -9223372036854775808 ≤ n ∧ n ≤ 9223372036854775807) : In64 n := h
theorem tkC_back : Back okC encC tkC := fun c r h => by
  have h' := h
  obtain ⟨k, i, b, m⟩ := c
  unfold okC at h'
  simp only at h'
  split at h'
  · rename_i hk
    subst hk
    simp only [Bool.and_eq_true, decide_eq_true_eq] at h'
    obtain ⟨⟨rfl, rfl⟩, h3⟩ := h'
    have hE : encC ⟨1, idZ, b, 0⟩ = enc 1 ++ encB b := by unfold encC; rw [if_pos h]; rfl
    rw [hE, List.append_assoc]
    unfold tkC fin
    simp only [rInt_enc 1 (in64 (by decide)), if_true, tkB_back b r h3, h]
    rfl
  split at h'
  · rename_i hk hk2
    subst hk2
    simp only [Bool.and_eq_true, decide_eq_true_eq] at h'
    obtain ⟨⟨h1, rfl⟩, rfl⟩ := h'
    have hE : encC ⟨2, i, bdZ, 0⟩ = enc 2 ++ encI i := by unfold encC; rw [if_pos h]; rfl
    rw [hE, List.append_assoc]
    unfold tkC fin
    simp only [rInt_enc 2 (in64 (by decide))]
    rw [if_neg (by decide), if_pos trivial]
    simp only [tkI_back i r h1, h]
    rfl
  split at h'
  · rename_i hk hk2 hk3
    subst hk3
    simp only [Bool.and_eq_true, decide_eq_true_eq] at h'
    obtain ⟨⟨⟨⟨h1, rfl⟩, h3⟩, h4⟩, h5⟩ := h'
    have e : ({ b with id := ⟨0, 0, 0⟩ } : BdR) = b := by
      obtain ⟨bi, b1, b2, b3, b4, b5, b6, b7, b8⟩ := b
      simp only at h3
      subst h3
      rfl
    have hE : encC ⟨3, i, b, 0⟩ = enc 3 ++ (encI i ++ restB b) := by unfold encC; rw [if_pos h]; rfl
    rw [hE, List.append_assoc, List.append_assoc]
    unfold tkC fin
    simp only [rInt_enc 3 (in64 (by decide))]
    rw [if_neg (by decide), if_neg (by decide), if_pos trivial]
    simp only [tkI_back i _ h1, tkR_back h5, e, h]
    rfl
  split at h'
  · rename_i hk hk2 hk3 hk4
    subst hk4
    simp only [Bool.and_eq_true, decide_eq_true_eq] at h'
    obtain ⟨⟨h1, rfl⟩, h3⟩ := h'
    have hm : In64 m := by
      unfold takesB at h3
      simp at h3
      unfold In64
      omega
    have hE : encC ⟨4, i, bdZ, m⟩ = enc 4 ++ (encI i ++ enc m) := by unfold encC; rw [if_pos h]; rfl
    rw [hE, List.append_assoc, List.append_assoc]
    unfold tkC fin
    simp only [rInt_enc 4 (in64 (by decide))]
    rw [if_neg (by decide), if_neg (by decide), if_neg (by decide), if_pos trivial]
    simp only [tkI_back i _ h1, rInt_enc m hm, h]
    rfl
  · simp at h'
theorem tkC_only : Only okC encC tkC := fun s c s' h => by
  unfold tkC fin at h
  rcases h1 : rInt s false with ⟨k, s1, b1⟩
  simp only [h1] at h
  split at h
  · rename_i hk
    subst hk
    rcases h2 : tkB s1 b1 with ⟨x, s2, b2⟩
    simp only [h2] at h
    obtain ⟨h3, h4, h5, h6⟩ := snd_ok h
    subst h4 h6
    obtain rfl := tkB_stay h2
    obtain ⟨g1, g2⟩ := tkB_only _ _ _ h2
    rw [h5] at h3
    refine ⟨h3, ?_⟩
    unfold encC
    rw [if_pos h3, ← h5]
    simp only [if_true]
    rw [(rInt_only _ _ _ h1).2, g2, List.append_assoc]
  split at h
  · rename_i hk hk2
    subst hk2
    rcases h2 : tkI s1 b1 with ⟨x, s2, b2⟩
    simp only [h2] at h
    obtain ⟨h3, h4, h5, h6⟩ := snd_ok h
    subst h4 h6
    obtain rfl := tkI_stay h2
    obtain ⟨g1, g2⟩ := tkI_only _ _ _ h2
    rw [h5] at h3
    refine ⟨h3, ?_⟩
    unfold encC
    rw [if_pos h3, ← h5]
    simp only
    rw [if_neg (by decide), if_neg (by decide), if_neg (by decide), (rInt_only _ _ _ h1).2, g2, List.append_assoc]
  split at h
  · rename_i hk hk2 hk3
    subst hk3
    rcases h2 : tkI s1 b1 with ⟨x, s2, b2⟩
    rcases h2' : tkR s2 b2 with ⟨y, s3, b3⟩
    simp only [h2, h2'] at h
    obtain ⟨h3, h4, h5, h6⟩ := snd_ok h
    subst h4 h6
    obtain ⟨rfl, g3, g4⟩ := tkR_only h2'
    obtain rfl := tkI_stay h2
    obtain ⟨g1, g2⟩ := tkI_only _ _ _ h2
    rw [h5] at h3
    refine ⟨h3, ?_⟩
    unfold encC
    rw [if_pos h3, ← h5]
    simp only
    rw [if_neg (by decide), if_pos trivial, (rInt_only _ _ _ h1).2, g2, g3, List.append_assoc, List.append_assoc]
  split at h
  · rename_i hk hk2 hk3 hk4
    subst hk4
    rcases h2 : tkI s1 b1 with ⟨x, s2, b2⟩
    rcases h2' : rInt s2 b2 with ⟨y, s3, b3⟩
    simp only [h2, h2'] at h
    obtain ⟨h3, h4, h5, h6⟩ := snd_ok h
    subst h4 h6
    obtain rfl := rInt_stay _ _ _ _ h2'
    obtain rfl := tkI_stay h2
    obtain ⟨g1, g2⟩ := tkI_only _ _ _ h2
    rw [h5] at h3
    refine ⟨h3, ?_⟩
    unfold encC
    rw [if_pos h3, ← h5]
    simp only
    rw [if_neg (by decide), if_neg (by decide), if_pos trivial, (rInt_only _ _ _ h1).2, g2, (rInt_only _ _ _ h2').2, List.append_assoc, List.append_assoc]
  · rename_i n1 n2 n3 n4
    obtain ⟨h3, h4, h5, h6⟩ := snd_ok h
    exfalso
    unfold okC at h3
    simp only [if_neg n1, if_neg n2, if_neg n3, if_neg n4] at h3
    cases h3
/-- lists -/
theorem rCount_enc (n : Nat) (most : Int) (h : (n : Int) ≤ most) (hm : most ≤ 9223372036854775807) (r : List UInt8) : rCount (txt (enc (n : Int) ++ r)) false most = ((n : Int), txt r, false) := by
  unfold rCount
  rw [rInt_enc _ (by unfold In64; omega)]
  simp only
  rw [if_neg (by omega)]
theorem rCount_only {s : ByteArray} {b : Bool} {most n : Int} {s' : ByteArray} (h : rCount s b most = (n, s', false)) : b = false ∧ 0 ≤ n ∧ n ≤ most ∧ bytes s = enc n ++ bytes s' := by
  unfold rCount at h
  split at h
  · simp at h
  · rename_i hn
    obtain rfl := rInt_stay _ _ _ _ h
    rw [h] at hn
    simp only at hn
    exact ⟨rfl, by omega, by omega, (rInt_only _ _ _ h).2⟩
section
variable {α : Type} {ok : α → Bool} {en : α → List UInt8} {tk : ByteArray → Bool → α × ByteArray × Bool}
theorem tkL_back (hb : Back ok en tk) : ∀ (xs l : List α) (r : List UInt8), (∀ x ∈ xs, ok x = true) → tkL tk xs.length l (txt (encLs en xs ++ r)) = (l ++ xs, txt r, false)
  | [], l, r, _ => by simp [tkL, encLs]
  | x :: xs, l, r, h => by
    have e : encLs en (x :: xs) ++ r = en x ++ (encLs en xs ++ r) := by simp [encLs]
    rw [List.length_cons, tkL, e, hb x _ (h x (by simp))]
    simp only [Bool.false_eq_true, if_false]
    rw [tkL_back hb xs _ r (fun y hy => h y (by simp [hy]))]
    simp
theorem tkL_only (ho : Only ok en tk) : ∀ (n : Nat) (l : List α) (s : ByteArray) (ys : List α) (s' : ByteArray), tkL tk n l s = (ys, s', false) → ∃ xs, ys = l ++ xs ∧ xs.length = n ∧ (∀ x ∈ xs, ok x = true) ∧ bytes s = encLs en xs ++ bytes s'
  | 0, l, s, ys, s', h => by
    simp only [tkL, Prod.mk.injEq, and_true] at h
    exact ⟨[], by simp [h.1], rfl, by simp, by simp [encLs, h.2]⟩
  | n + 1, l, s, ys, s', h => by
    rw [tkL] at h
    rcases ht : tk s false with ⟨x, s1, b1⟩
    rw [ht] at h
    simp only at h
    cases b1 with
    | true => simp at h
    | false =>
      rw [if_neg (by simp)] at h
      obtain ⟨xs, rfl, h2, h3, h4⟩ := tkL_only ho n _ _ _ _ h
      obtain ⟨g1, g2⟩ := ho _ _ _ ht
      refine ⟨x :: xs, by simp, by simp [h2], fun y hy => ?_, ?_⟩
      · rcases List.mem_cons.1 hy with rfl | hy
        · exact g1
        · exact h3 y hy
      · rw [g2, h4]; simp [encLs]
theorem readL_back (hb : Back ok en tk) (xs : List α) (most : Int) (hl : (xs.length : Int) ≤ most) (hm : most ≤ 9223372036854775807) (r : List UInt8) (h : ∀ x ∈ xs, ok x = true) : readL tk (txt (encL en xs ++ r)) false most = (xs, txt r, false) := by
  unfold readL encL
  rw [List.append_assoc, rCount_enc _ _ hl hm]
  simp only [Bool.false_eq_true, if_false, Int.toNat_natCast]
  rw [tkL_back hb xs [] r h]
  rfl
theorem readL_only (ho : Only ok en tk) {s : ByteArray} {b : Bool} {most : Int} {xs : List α} {s' : ByteArray} (h : readL tk s b most = (xs, s', false)) : b = false ∧ (xs.length : Int) ≤ most ∧ (∀ x ∈ xs, ok x = true) ∧ bytes s = encL en xs ++ bytes s' := by
  unfold readL at h
  rcases hc : rCount s b most with ⟨n, s1, b1⟩
  rw [hc] at h
  simp only at h
  cases b1 with
  | true => simp at h
  | false =>
    rw [if_neg (by simp)] at h
    obtain ⟨rfl, h1, h2, h3⟩ := rCount_only hc
    obtain ⟨xs', g1, g2, g3, g4⟩ := tkL_only ho _ _ _ _ _ h
    rw [List.nil_append] at g1
    subst g1
    have hn : (xs.length : Int) = n := by rw [g2]; omega
    refine ⟨rfl, by rw [hn]; exact h2, g3, ?_⟩
    unfold encL
    rw [hn, h3, g4, List.append_assoc]
end
end Go.Proofs.Ytjfjecjigakdnaa.Octs
