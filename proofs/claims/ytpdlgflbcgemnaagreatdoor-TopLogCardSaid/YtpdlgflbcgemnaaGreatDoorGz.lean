/- Plain laws and walks: CodQ1, CodQ2, CodQ3, CodN. -/
import Derived.Test.YtpdlgflbcgemnaaGreatDoorCodMP
-- CodQ1
/- codec: a number's bytes are the only ones: plain laws. -/
set_option linter.unusedSimpArgs false
set_option linter.unusedVariables false
set_option maxRecDepth 100000
namespace Go.Proofs.YtpdlgflbcgemnaaGreatDoor.Octs
open Go.RowKit
theorem big_num : ∀ (k : Nat) (l : List UInt8), l.length = k → big (num l) k = l
  | 0, l, h => by
    have := List.length_eq_zero_iff.1 h
    subst this
    rfl
  | k + 1, l, h => by
    have hn : l ≠ [] := by intro e; subst e; simp at h
    obtain ⟨l', b, rfl⟩ : ∃ l' b, l = l' ++ [b] := ⟨l.dropLast, l.getLast hn, (List.dropLast_concat_getLast hn).symm⟩
    have hl : l'.length = k := by simpa using h
    have hb := b.toNat_lt
    rw [num_snoc, big, show (256 * num l' + b.toNat) / 256 = num l' by omega, big_num k l' hl]
    congr 2
    apply UInt8.toNat_inj.1
    rw [u8n]
    omega
theorem bsz_of (m k : Nat) (hk : k ≤ 8) (h1 : 0 < k → 256 ^ (k - 1) ≤ m) (h2 : m < 256 ^ k) : bsz m = k := by
  have h1' : k = 0 ∨ 256 ^ (k - 1) ≤ m := by
    rcases Nat.eq_zero_or_pos k with h | h
    · exact .inl h
    · exact .inr (h1 h)
  clear h1
  have : k = 0 ∨ k = 1 ∨ k = 2 ∨ k = 3 ∨ k = 4 ∨ k = 5 ∨ k = 6 ∨ k = 7 ∨ k = 8 := by omega
  unfold bsz
  rcases this with rfl | rfl | rfl | rfl | rfl | rfl | rfl | rfl | rfl <;>
    (simp only [Nat.reducePow, Nat.reduceSub] at h1' h2
     repeat' split
     all_goals omega)
theorem rInt_only (s : ByteArray) (n : Int) (s' : ByteArray) (h : rInt s false = (n, s', false)) : In64 n ∧ bytes s = enc n ++ bytes s' := by
  have hin := rInt_in s false
  rw [h] at hin
  refine ⟨hin, ?_⟩
  unfold rInt at h
  rw [if_neg (by simp)] at h
  by_cases ho : headOk s
  case neg =>
    rw [if_neg ho] at h
    simp at h
  rw [if_pos ho] at h
  obtain ⟨h1, h2, h3, h4, h5⟩ := ho
  simp only [Prod.mk.injEq, and_true] at h
  obtain ⟨rfl, rfl⟩ := h
  obtain ⟨l, rfl⟩ : ∃ l, s = txt l := ⟨bytes s, rfl⟩
  rw [bytes_txt] at h4 ⊢
  rw [txt_size] at h1 h3
  cases l with
  | nil => simp at h1
  | cons b0 r =>
    have hK : headK (txt (b0 :: r)) = b0.toNat % 128 := rfl
    have hD : headD (txt (b0 :: r)) = num (r.take (headK (txt (b0 :: r)))) := rfl
    have hN : headN (txt (b0 :: r)) = if 127 < b0.toNat then -(headD (txt (b0 :: r)) : Int) - 1 else headD (txt (b0 :: r)) := rfl
    rw [hN]
    generalize headD (txt (b0 :: r)) = D at *
    generalize headK (txt (b0 :: r)) = k at *
    have hx : (txt (b0 :: r)).extract (1 + k) (txt (b0 :: r)).size = txt (r.drop k) := by
      rw [txt_extract, txt_size]
      congr 1
      rw [show List.drop (1 + k) (b0 :: r) = r.drop k by rw [Nat.add_comm]; rfl]
      rw [List.take_of_length_le]
      simp [List.length_drop]
      omega
    rw [hx, bytes_txt]
    simp only [List.length_cons] at h3
    have hpl : (r.take k).length = k := by rw [List.length_take]; omega
    have hlt := num_lt (r.take k)
    rw [hpl, ← hD] at hlt
    have hbig : big D k = r.take k := by
      have := big_num k (r.take k) hpl
      rw [← hD] at this
      exact this
    have hb : bsz D = k := by
      refine bsz_of D k h2 (fun hk => ?_) hlt
      obtain ⟨k', rfl⟩ : ∃ k', k = k' + 1 := ⟨k - 1, by omega⟩
      cases r with
      | nil => simp at h3
      | cons r0 r1 =>
        have hr0 : ¬ r0.toNat = 0 := fun h => h4 ⟨hk, h⟩
        rw [List.take_succ_cons, num_cons] at hD
        have hl : (r1.take k').length = k' := by simpa using hpl
        rw [hl] at hD
        rw [hD, Nat.add_sub_cancel]
        have : 1 * 256 ^ k' ≤ r0.toNat * 256 ^ k' := Nat.mul_le_mul_right _ (by omega)
        omega
    have hb0 := b0.toNat_lt
    have hD63 : D < 9223372036854775808 := h5
    by_cases hneg : 127 < b0.toNat
    · rw [if_pos hneg]
      have hm : mag (-(D : Int) - 1) = D := by unfold mag; rw [if_pos (by omega)]; omega
      have hs : sgn (-(D : Int) - 1) = 128 := if_pos (by omega)
      unfold enc
      rw [hm, hs, hb, hbig]
      rw [List.cons_append, List.take_append_drop]
      congr 1
      apply UInt8.toNat_inj.1
      rw [u8n]
      omega
    · rw [if_neg hneg]
      have hm : mag (D : Int) = D := by unfold mag; rw [if_neg (by omega)]; omega
      have hs : sgn (D : Int) = 0 := if_neg (by omega)
      unfold enc
      rw [hm, hs, hb, hbig]
      rw [List.cons_append, List.take_append_drop]
      congr 1
      apply UInt8.toNat_inj.1
      rw [u8n]
      omega
end Go.Proofs.YtpdlgflbcgemnaaGreatDoor.Octs
-- CodQ2
/- codec: what was laid is read again, and only that is read: plain laws. -/
set_option linter.unusedSimpArgs false
set_option linter.unusedVariables false
set_option maxRecDepth 100000
namespace Go.Proofs.YtpdlgflbcgemnaaGreatDoor.Octs
open Go.RowKit
/-- what was laid is read again -/
def Back {α : Type} (ok : α → Bool) (enc : α → List UInt8) (tk : ByteArray → Bool → α × ByteArray × Bool) : Prop := ∀ x r, ok x = true → tk (txt (enc x ++ r)) false = (x, txt r, false)
/-- only what was laid is read -/
def Only {α : Type} (ok : α → Bool) (enc : α → List UInt8) (tk : ByteArray → Bool → α × ByteArray × Bool) : Prop := ∀ s x s', tk s false = (x, s', false) → ok x = true ∧ bytes s = enc x ++ bytes s'
theorem rInt_true (s : ByteArray) : rInt s true = (0, s, true) := rfl
/-- a reader that is bad stays bad -/
theorem rInt_stay (s : ByteArray) (b : Bool) (n : Int) (s' : ByteArray) (h : rInt s b = (n, s', false)) : b = false := by
  cases b with
  | false => rfl
  | true => rw [rInt_true] at h; simp at h
theorem rs3_back (a : IdR) (r : List UInt8) (h1 : In64 a.s) (h2 : In64 a.i) (h3 : In64 a.g) : rs3 (txt (encs (idInts a) ++ r)) false = (a, txt r, false) := by
  have e : encs (idInts a) ++ r = enc a.s ++ (enc a.i ++ (enc a.g ++ r)) := by simp [encs, idInts]
  unfold rs3
  rw [e]
  simp only [rInt_enc _ h1, rInt_enc _ h2, rInt_enc _ h3]
theorem idB_in {a : IdR} (h : idB a = true) : In64 a.s ∧ In64 a.i ∧ In64 a.g := by
  unfold idB withinB at h
  simp at h
  unfold In64
  omega
theorem snd_ok {α : Type} {ok : Bool} {z x y : α} {s s' : ByteArray} {b : Bool} (h : snd ok z x s b = (y, s', false)) : ok = true ∧ b = false ∧ x = y ∧ s = s' := by
  unfold snd at h
  cases b <;> cases ok <;> simp at h
  exact ⟨rfl, rfl, h.1, h.2⟩
theorem tkI_back : Back idB encI tkI := fun a r h => by
  obtain ⟨h1, h2, h3⟩ := idB_in h
  unfold tkI encI
  rw [if_pos h, rs3_back a r h1 h2 h3]
  simp only [h]
  rfl
theorem rs3_only {s : ByteArray} {b : Bool} {a : IdR} {s' : ByteArray} (h : rs3 s b = (a, s', false)) : b = false ∧ bytes s = encs (idInts a) ++ bytes s' := by
  unfold rs3 at h
  rcases h1 : rInt s b with ⟨n1, s1, b1⟩
  rcases h2 : rInt s1 b1 with ⟨n2, s2, b2⟩
  rcases h3 : rInt s2 b2 with ⟨n3, s3, b3⟩
  simp only [h1, h2, h3, Prod.mk.injEq] at h
  obtain ⟨rfl, rfl, rfl⟩ := h
  obtain rfl := rInt_stay _ _ _ _ h3
  obtain rfl := rInt_stay _ _ _ _ h2
  obtain rfl := rInt_stay _ _ _ _ h1
  refine ⟨rfl, ?_⟩
  rw [(rInt_only _ _ _ h1).2, (rInt_only _ _ _ h2).2, (rInt_only _ _ _ h3).2]
  simp [encs, idInts]
theorem tkI_stay {s : ByteArray} {b : Bool} {a : IdR} {s' : ByteArray} (h : tkI s b = (a, s', false)) : b = false := by
  unfold tkI at h
  obtain ⟨h1, h2, h3, h4⟩ := snd_ok h
  exact (rs3_only (a := a) (s' := s') (Prod.ext h3 (Prod.ext h4 h2))).1
theorem tkI_only : Only idB encI tkI := fun s a s' h => by
  unfold tkI at h
  obtain ⟨h1, h2, h3, h4⟩ := snd_ok h
  have h5 := (rs3_only (a := a) (s' := s') (Prod.ext h3 (Prod.ext h4 h2))).2
  rw [h3] at h1
  refine ⟨h1, ?_⟩
  unfold encI
  rw [if_pos h1]
  exact h5
/-- the components that are read -/
theorem fill_back (b : BdR) : ∀ (l : List Nat) (t : BdR) (r : List UInt8), (∀ o ∈ l, In64 (fieldB b o)) → fillB (t, txt (encs (l.map (fieldB b)) ++ r), false) l = (l.foldl (fun a o => setF a o (fieldB b o)) t, txt r, false)
  | [], t, r, _ => rfl
  | o :: l, t, r, h => by
    have e : encs ((o :: l).map (fieldB b)) ++ r = enc (fieldB b o) ++ (encs (l.map (fieldB b)) ++ r) := by simp [encs]
    show fillB (stepB (t, _, false) o) l = _
    unfold stepB
    rw [e]
    simp only [rInt_enc _ (h o (by simp))]
    exact fill_back b l _ r (fun o' ho => h o' (by simp [ho]))
theorem rightB_in {b : BdR} (h : rightB b = true) : (0 ≤ b.mask ∧ b.mask ≤ 31) ∧ (∀ o, In64 (fieldB b o)) := by
  unfold rightB rowsB at h
  simp only [Bool.and_eq_true, List.all_cons, List.all_nil, WR.ok, withinB, maskB, decide_eq_true_eq] at h
  obtain ⟨hm, h1, h2, h3, h4, h5, h6, h7, -⟩ := h
  refine ⟨hm, fun o => ?_⟩
  unfold In64 fieldB
  split
  · split at h1 <;> simp at h1 <;> omega
  · split at h2 <;> simp at h2 <;> omega
  · split at h3 <;> simp at h3 <;> omega
  · split at h4 <;> simp at h4 <;> omega
  · split at h5 <;> simp at h5 <;> omega
  · split at h6 <;> simp at h6 <;> omega
  · split at h7 <;> simp at h7 <;> omega
theorem fold_right {b : BdR} (h : rightB b = true) : (offs b.mask 7).foldl (fun a o => setF a o (fieldB b o)) ⟨⟨0, 0, 0⟩, b.mask, 0, 0, 0, 0, 0, 0, 0⟩ = { b with id := ⟨0, 0, 0⟩ } := by
  unfold rightB rowsB at h
  simp only [Bool.and_eq_true, List.all_cons, List.all_nil, WR.ok, withinB] at h
  obtain ⟨-, h1, h2, h3, h4, h5, h6, h7, -⟩ := h
  obtain ⟨i, m, x, y, vx, vy, hp, pw, lf⟩ := b
  simp only at h1 h2 h3 h4 h5 h6 h7 ⊢
  unfold offs crows
  cases e1 : bitB m 1 <;> cases e2 : bitB m 2 <;> cases e4 : bitB m 4 <;> cases e8 : bitB m 8 <;> cases e16 : bitB m 16 <;>
    simp [e1, e2, e4, e8, e16] at h1 h2 h3 h4 h5 h6 h7 <;> simp [List.filter, fieldB, setF, e1, e2, e4, e8, e16, *]
theorem rawR_back {b : BdR} (h : rightB b = true) (r : List UInt8) : rawR (txt (restB b ++ r)) false = ({ b with id := ⟨0, 0, 0⟩ }, txt r, false) := by
  obtain ⟨hm, hf⟩ := rightB_in h
  have e : restB b ++ r = enc b.mask ++ (encs (comps b.mask b) ++ r) := by simp [restB, encs]
  have hi : In64 b.mask := by unfold In64; omega
  unfold rawR
  rw [e, rInt_enc _ hi]
  simp only
  rw [if_neg (by omega), comps_offs, fill_back b _ _ _ (fun o _ => hf o), fold_right h]
theorem tkR_back {b : BdR} (h : rightB b = true) (r : List UInt8) : tkR (txt (restB b ++ r)) false = ({ b with id := ⟨0, 0, 0⟩ }, txt r, false) := by
  unfold tkR
  rw [rawR_back h]
  rfl
theorem fieldB_setF (t : BdR) (o o' : Nat) (x : Int) (h : 4 ≤ o ∧ o ≤ 10) (h' : 4 ≤ o' ∧ o' ≤ 10) : fieldB (setF t o x) o' = if o' = o then x else fieldB t o' := by
  rcases (by omega : o = 4 ∨ o = 5 ∨ o = 6 ∨ o = 7 ∨ o = 8 ∨ o = 9 ∨ o = 10) with rfl | rfl | rfl | rfl | rfl | rfl | rfl <;>
    (rcases (by omega : o' = 4 ∨ o' = 5 ∨ o' = 6 ∨ o' = 7 ∨ o' = 8 ∨ o' = 9 ∨ o' = 10) with rfl | rfl | rfl | rfl | rfl | rfl | rfl <;> rfl)
theorem fill_only : ∀ (l : List Nat) (t : BdR) (s : ByteArray) (b : Bool) (t' : BdR) (s' : ByteArray), fillB (t, s, b) l = (t', s', false) → l.Nodup → (∀ o ∈ l, 4 ≤ o ∧ o ≤ 10) →
    b = false ∧ bytes s = encs (l.map (fieldB t')) ++ bytes s' ∧ ∀ o, o ∉ l → 4 ≤ o ∧ o ≤ 10 → fieldB t' o = fieldB t o
  | [], t, s, b, t', s', h, _, _ => by
    obtain ⟨rfl, rfl, rfl⟩ : t = t' ∧ s = s' ∧ b = false := by simpa [fillB] using h
    exact ⟨rfl, by simp [encs], fun _ _ _ => rfl⟩
  | o :: l, t, s, b, t', s', h, hn, ho => by
    have h1 : fillB (stepB (t, s, b) o) l = (t', s', false) := h
    unfold stepB at h1
    simp only at h1
    rcases hr : rInt s b with ⟨n, s1, b1⟩
    rw [hr] at h1
    simp only at h1
    rw [List.nodup_cons] at hn
    obtain ⟨rfl, h2, h3⟩ := fill_only l _ _ _ _ _ h1 hn.2 (fun o' h' => ho o' (by simp [h']))
    obtain rfl := rInt_stay _ _ _ _ hr
    have h4 := h3 o hn.1 (ho o (by simp))
    rw [fieldB_setF _ _ _ _ (ho o (by simp)) (ho o (by simp)), if_pos rfl] at h4
    refine ⟨rfl, ?_, fun o' h5 h6 => ?_⟩
    · rw [(rInt_only _ _ _ hr).2, h2, List.map_cons, h4]
      simp [encs]
    · simp at h5
      rw [h3 o' h5.2 h6, fieldB_setF _ _ _ _ (ho o (by simp)) h6, if_neg h5.1]
theorem offs_nodup (m : Int) : (offs m 7).Nodup := by
  unfold offs crows
  cases e1 : bitB m 1 <;> cases e2 : bitB m 2 <;> cases e4 : bitB m 4 <;> cases e8 : bitB m 8 <;> cases e16 : bitB m 16 <;> simp [List.filter, e1, e2, e4, e8, e16]
theorem rawR_only {s : ByteArray} {b : Bool} {x : BdR} {s' : ByteArray} (h : rawR s b = (x, s', false)) : b = false ∧ bytes s = restB x ++ bytes s' ∧ x.id = ⟨0, 0, 0⟩ := by
  unfold rawR at h
  split at h
  · simp at h
  · rcases hr : rInt s b with ⟨n, s1, b1⟩
    rw [hr] at h
    simp only at h
    have hm := fill_mask (⟨⟨0, 0, 0⟩, n, 0, 0, 0, 0, 0, 0, 0⟩, s1, b1) (offs n 7)
    obtain ⟨rfl, h2, h3⟩ := fill_only _ _ _ _ _ _ h (offs_nodup _) (fun o ho => offs_in _ o ho)
    rw [h] at hm
    simp only at hm
    obtain rfl := rInt_stay _ _ _ _ hr
    refine ⟨rfl, ?_, hm.2⟩
    rw [(rInt_only _ _ _ hr).2, h2]
    unfold restB
    rw [comps_offs, hm.1]
    simp [encs]
theorem tkR_only {s : ByteArray} {b : Bool} {x : BdR} {s' : ByteArray} (h : tkR s b = (x, s', false)) : b = false ∧ bytes s = restB x ++ bytes s' ∧ x.id = ⟨0, 0, 0⟩ := by
  unfold tkR at h
  obtain ⟨-, h2, h3, h4⟩ := snd_ok h
  exact rawR_only (x := x) (s' := s') (Prod.ext h3 (Prod.ext h4 h2))
theorem restB_id (b : BdR) (i : IdR) : restB { b with id := i } = restB b := rfl
theorem tkB_back : Back okB encB tkB := fun b r h => by
  have h' := h
  unfold okB at h'
  simp only [Bool.and_eq_true] at h'
  obtain ⟨⟨h1, h2⟩, h3⟩ := h'
  unfold tkB encB
  rw [if_pos h, List.append_assoc, tkI_back b.id _ h3]
  simp only [tkR_back h1]
  have e : ({ ({ b with id := ⟨0, 0, 0⟩ } : BdR) with id := b.id } : BdR) = b := rfl
  rw [e, h]
  rfl
theorem tkB_only : Only okB encB tkB := fun s x s' h => by
  unfold tkB at h
  rcases h1 : tkI s false with ⟨i, s1, b1⟩
  rcases h2 : tkR s1 b1 with ⟨q, s2, b2⟩
  simp only [h1, h2] at h
  obtain ⟨h3, h4, h5, h6⟩ := snd_ok h
  subst h4 h6
  obtain ⟨rfl, h7, h8⟩ := tkR_only h2
  obtain ⟨h9, h10⟩ := tkI_only _ _ _ h1
  rw [h5] at h3
  refine ⟨h3, ?_⟩
  unfold encB
  rw [if_pos h3, h10, h7, ← h5]
  simp [restB_id]
theorem tkB_stay {s : ByteArray} {b : Bool} {x : BdR} {s' : ByteArray} (h : tkB s b = (x, s', false)) : b = false := by
  unfold tkB at h
  rcases h1 : tkI s b with ⟨i, s1, b1⟩
  rcases h2 : tkR s1 b1 with ⟨q, s2, b2⟩
  simp only [h1, h2] at h
  obtain ⟨h3, h4, h5, h6⟩ := snd_ok h
  subst h4
  obtain ⟨rfl, -, -⟩ := tkR_only h2
  exact tkI_stay h1
end Go.Proofs.YtpdlgflbcgemnaaGreatDoor.Octs
-- CodQ3
/- codec: commands and lists that were laid are read again, and only these: plain laws. -/
set_option linter.unusedSimpArgs false
set_option linter.unusedVariables false
set_option maxRecDepth 100000
namespace Go.Proofs.YtpdlgflbcgemnaaGreatDoor.Octs
open Go.RowKit
theorem in64 {n : Int} (h : -9223372036854775808 ≤ n ∧ n ≤ 9223372036854775807) : In64 n := h
theorem tkC_back : Back okC encC tkC := fun c r h => by
  have h' := h
  obtain ⟨k, i, b, m⟩ := c
  unfold okC at h'
  simp only at h'
  split at h'
  · rename_i hk
    subst hk
    simp only [Bool.and_eq_true, decide_eq_true_eq] at h'
    obtain ⟨⟨rfl, rfl⟩, h3⟩ := h'
    have hE : encC ⟨1, idZ, b, 0⟩ = enc 1 ++ encB b := by unfold encC; rw [if_pos h]; rfl
    rw [hE, List.append_assoc]
    unfold tkC fin
    simp only [rInt_enc 1 (in64 (by decide)), if_true, tkB_back b r h3, h]
    rfl
  split at h'
  · rename_i hk hk2
    subst hk2
    simp only [Bool.and_eq_true, decide_eq_true_eq] at h'
    obtain ⟨⟨h1, rfl⟩, rfl⟩ := h'
    have hE : encC ⟨2, i, bdZ, 0⟩ = enc 2 ++ encI i := by unfold encC; rw [if_pos h]; rfl
    rw [hE, List.append_assoc]
    unfold tkC fin
    simp only [rInt_enc 2 (in64 (by decide))]
    rw [if_neg (by decide), if_pos trivial]
    simp only [tkI_back i r h1, h]
    rfl
  split at h'
  · rename_i hk hk2 hk3
    subst hk3
    simp only [Bool.and_eq_true, decide_eq_true_eq] at h'
    obtain ⟨⟨⟨⟨h1, rfl⟩, h3⟩, h4⟩, h5⟩ := h'
    have e : ({ b with id := ⟨0, 0, 0⟩ } : BdR) = b := by
      obtain ⟨bi, b1, b2, b3, b4, b5, b6, b7, b8⟩ := b
      simp only at h3
      subst h3
      rfl
    have hE : encC ⟨3, i, b, 0⟩ = enc 3 ++ (encI i ++ restB b) := by unfold encC; rw [if_pos h]; rfl
    rw [hE, List.append_assoc, List.append_assoc]
    unfold tkC fin
    simp only [rInt_enc 3 (in64 (by decide))]
    rw [if_neg (by decide), if_neg (by decide), if_pos trivial]
    simp only [tkI_back i _ h1, tkR_back h5, e, h]
    rfl
  split at h'
  · rename_i hk hk2 hk3 hk4
    subst hk4
    simp only [Bool.and_eq_true, decide_eq_true_eq] at h'
    obtain ⟨⟨h1, rfl⟩, h3⟩ := h'
    have hm : In64 m := by
      unfold takesB at h3
      simp at h3
      unfold In64
      omega
    have hE : encC ⟨4, i, bdZ, m⟩ = enc 4 ++ (encI i ++ enc m) := by unfold encC; rw [if_pos h]; rfl
    rw [hE, List.append_assoc, List.append_assoc]
    unfold tkC fin
    simp only [rInt_enc 4 (in64 (by decide))]
    rw [if_neg (by decide), if_neg (by decide), if_neg (by decide), if_pos trivial]
    simp only [tkI_back i _ h1, rInt_enc m hm, h]
    rfl
  · simp at h'
theorem tkC_only : Only okC encC tkC := fun s c s' h => by
  unfold tkC fin at h
  rcases h1 : rInt s false with ⟨k, s1, b1⟩
  simp only [h1] at h
  split at h
  · rename_i hk
    subst hk
    rcases h2 : tkB s1 b1 with ⟨x, s2, b2⟩
    simp only [h2] at h
    obtain ⟨h3, h4, h5, h6⟩ := snd_ok h
    subst h4 h6
    obtain rfl := tkB_stay h2
    obtain ⟨g1, g2⟩ := tkB_only _ _ _ h2
    rw [h5] at h3
    refine ⟨h3, ?_⟩
    unfold encC
    rw [if_pos h3, ← h5]
    simp only [if_true]
    rw [(rInt_only _ _ _ h1).2, g2, List.append_assoc]
  split at h
  · rename_i hk hk2
    subst hk2
    rcases h2 : tkI s1 b1 with ⟨x, s2, b2⟩
    simp only [h2] at h
    obtain ⟨h3, h4, h5, h6⟩ := snd_ok h
    subst h4 h6
    obtain rfl := tkI_stay h2
    obtain ⟨g1, g2⟩ := tkI_only _ _ _ h2
    rw [h5] at h3
    refine ⟨h3, ?_⟩
    unfold encC
    rw [if_pos h3, ← h5]
    simp only
    rw [if_neg (by decide), if_neg (by decide), if_neg (by decide), (rInt_only _ _ _ h1).2, g2, List.append_assoc]
  split at h
  · rename_i hk hk2 hk3
    subst hk3
    rcases h2 : tkI s1 b1 with ⟨x, s2, b2⟩
    rcases h2' : tkR s2 b2 with ⟨y, s3, b3⟩
    simp only [h2, h2'] at h
    obtain ⟨h3, h4, h5, h6⟩ := snd_ok h
    subst h4 h6
    obtain ⟨rfl, g3, g4⟩ := tkR_only h2'
    obtain rfl := tkI_stay h2
    obtain ⟨g1, g2⟩ := tkI_only _ _ _ h2
    rw [h5] at h3
    refine ⟨h3, ?_⟩
    unfold encC
    rw [if_pos h3, ← h5]
    simp only
    rw [if_neg (by decide), if_pos trivial, (rInt_only _ _ _ h1).2, g2, g3, List.append_assoc, List.append_assoc]
  split at h
  · rename_i hk hk2 hk3 hk4
    subst hk4
    rcases h2 : tkI s1 b1 with ⟨x, s2, b2⟩
    rcases h2' : rInt s2 b2 with ⟨y, s3, b3⟩
    simp only [h2, h2'] at h
    obtain ⟨h3, h4, h5, h6⟩ := snd_ok h
    subst h4 h6
    obtain rfl := rInt_stay _ _ _ _ h2'
    obtain rfl := tkI_stay h2
    obtain ⟨g1, g2⟩ := tkI_only _ _ _ h2
    rw [h5] at h3
    refine ⟨h3, ?_⟩
    unfold encC
    rw [if_pos h3, ← h5]
    simp only
    rw [if_neg (by decide), if_neg (by decide), if_pos trivial, (rInt_only _ _ _ h1).2, g2, (rInt_only _ _ _ h2').2, List.append_assoc, List.append_assoc]
  · rename_i n1 n2 n3 n4
    obtain ⟨h3, h4, h5, h6⟩ := snd_ok h
    exfalso
    unfold okC at h3
    simp only [if_neg n1, if_neg n2, if_neg n3, if_neg n4] at h3
    cases h3
/-- lists -/
theorem rCount_enc (n : Nat) (most : Int) (h : (n : Int) ≤ most) (hm : most ≤ 9223372036854775807) (r : List UInt8) : rCount (txt (enc (n : Int) ++ r)) false most = ((n : Int), txt r, false) := by
  unfold rCount
  rw [rInt_enc _ (by unfold In64; omega)]
  simp only
  rw [if_neg (by omega)]
theorem rCount_only {s : ByteArray} {b : Bool} {most n : Int} {s' : ByteArray} (h : rCount s b most = (n, s', false)) : b = false ∧ 0 ≤ n ∧ n ≤ most ∧ bytes s = enc n ++ bytes s' := by
  unfold rCount at h
  split at h
  · simp at h
  · rename_i hn
    obtain rfl := rInt_stay _ _ _ _ h
    rw [h] at hn
    simp only at hn
    exact ⟨rfl, by omega, by omega, (rInt_only _ _ _ h).2⟩
section
variable {α : Type} {ok : α → Bool} {en : α → List UInt8} {tk : ByteArray → Bool → α × ByteArray × Bool}
theorem tkL_back (hb : Back ok en tk) : ∀ (xs l : List α) (r : List UInt8), (∀ x ∈ xs, ok x = true) → tkL tk xs.length l (txt (encLs en xs ++ r)) = (l ++ xs, txt r, false)
  | [], l, r, _ => by simp [tkL, encLs]
  | x :: xs, l, r, h => by
    have e : encLs en (x :: xs) ++ r = en x ++ (encLs en xs ++ r) := by simp [encLs]
    rw [List.length_cons, tkL, e, hb x _ (h x (by simp))]
    simp only [Bool.false_eq_true, if_false]
    rw [tkL_back hb xs _ r (fun y hy => h y (by simp [hy]))]
    simp
theorem tkL_only (ho : Only ok en tk) : ∀ (n : Nat) (l : List α) (s : ByteArray) (ys : List α) (s' : ByteArray), tkL tk n l s = (ys, s', false) → ∃ xs, ys = l ++ xs ∧ xs.length = n ∧ (∀ x ∈ xs, ok x = true) ∧ bytes s = encLs en xs ++ bytes s'
  | 0, l, s, ys, s', h => by
    simp only [tkL, Prod.mk.injEq, and_true] at h
    exact ⟨[], by simp [h.1], rfl, by simp, by simp [encLs, h.2]⟩
  | n + 1, l, s, ys, s', h => by
    rw [tkL] at h
    rcases ht : tk s false with ⟨x, s1, b1⟩
    rw [ht] at h
    simp only at h
    cases b1 with
    | true => simp at h
    | false =>
      rw [if_neg (by simp)] at h
      obtain ⟨xs, rfl, h2, h3, h4⟩ := tkL_only ho n _ _ _ _ h
      obtain ⟨g1, g2⟩ := ho _ _ _ ht
      refine ⟨x :: xs, by simp, by simp [h2], fun y hy => ?_, ?_⟩
      · rcases List.mem_cons.1 hy with rfl | hy
        · exact g1
        · exact h3 y hy
      · rw [g2, h4]; simp [encLs]
theorem readL_back (hb : Back ok en tk) (xs : List α) (most : Int) (hl : (xs.length : Int) ≤ most) (hm : most ≤ 9223372036854775807) (r : List UInt8) (h : ∀ x ∈ xs, ok x = true) : readL tk (txt (encL en xs ++ r)) false most = (xs, txt r, false) := by
  unfold readL encL
  rw [List.append_assoc, rCount_enc _ _ hl hm]
  simp only [Bool.false_eq_true, if_false, Int.toNat_natCast]
  rw [tkL_back hb xs [] r h]
  rfl
theorem readL_only (ho : Only ok en tk) {s : ByteArray} {b : Bool} {most : Int} {xs : List α} {s' : ByteArray} (h : readL tk s b most = (xs, s', false)) : b = false ∧ (xs.length : Int) ≤ most ∧ (∀ x ∈ xs, ok x = true) ∧ bytes s = encL en xs ++ bytes s' := by
  unfold readL at h
  rcases hc : rCount s b most with ⟨n, s1, b1⟩
  rw [hc] at h
  simp only at h
  cases b1 with
  | true => simp at h
  | false =>
    rw [if_neg (by simp)] at h
    obtain ⟨rfl, h1, h2, h3⟩ := rCount_only hc
    obtain ⟨xs', g1, g2, g3, g4⟩ := tkL_only ho _ _ _ _ _ h
    rw [List.nil_append] at g1
    subst g1
    have hn : (xs.length : Int) = n := by rw [g2]; omega
    refine ⟨rfl, by rw [hn]; exact h2, g3, ?_⟩
    unfold encL
    rw [hn, h3, g4, List.append_assoc]
end
end Go.Proofs.YtpdlgflbcgemnaaGreatDoor.Octs
-- CodN
/- codec: messages: plain laws. -/
set_option linter.unusedSimpArgs false
set_option linter.unusedVariables false
set_option maxRecDepth 100000
namespace Go.Proofs.YtpdlgflbcgemnaaGreatDoor.Octs
open Go.RowKit
/-- a message -/
structure MsgR where
  kind : Int
  t : Int
  n : Int
  cs : List CmdR
  bs : List BdR
  is : List IdR
abbrev msZ : MsgR := ⟨0, 0, 0, [], [], []⟩
/-- which fields has a kind? -/
def fK (k : Int) : Bool := decide (1 ≤ k) && decide (k ≤ 12)
def fT (k : Int) : Bool := (decide (1 ≤ k) && decide (k ≤ 6)) || decide (k = 11) || decide (k = 12)
def fN (k : Int) : Bool := decide (7 ≤ k) && decide (k ≤ 10)
def fC (k : Int) : Bool := decide (k = 1)
def fB (k : Int) : Bool := decide (k = 7) || decide (k = 12)
def fI (k : Int) : Bool := decide (k = 4)
def numB (has : Bool) (n : Int) : Bool := if has then decide (1 ≤ n) && decide (n ≤ 1099511627776) else decide (n = 0)
def allB {α : Type} (ok : α → Bool) (has : Bool) (xs : List α) (most : Nat) : Bool := (has || decide (xs.length = 0)) && decide (xs.length ≤ most) && xs.all ok
/-- may a message be? -/
def okM (m : MsgR) : Bool := fK m.kind && numB (fT m.kind) m.t && numB (fN m.kind) m.n && allB okC (fC m.kind) m.cs 64 && allB okB (fB m.kind) m.bs 1024 && allB idB (fI m.kind) m.is 1024 && !(decide (m.kind = 7) && decide (m.bs.length ≠ 1))
def encM (m : MsgR) : List UInt8 :=
  enc m.kind ++ ((if fT m.kind then enc m.t else []) ++ ((if fN m.kind then enc m.n else []) ++ ((if fC m.kind then encL encC m.cs else []) ++ ((if fB m.kind then encL encB m.bs else []) ++ (if fI m.kind then encL encI m.is else [])))))
def rdI (has : Bool) (s : ByteArray) (b : Bool) : Int × ByteArray × Bool := if has then rInt s b else (0, s, b)
def rdL {α : Type} (has : Bool) (tk : ByteArray → Bool → α × ByteArray × Bool) (s : ByteArray) (b : Bool) (most : Int) : List α × ByteArray × Bool := if has then readL tk s b most else ([], s, b)
def rawM (s : ByteArray) : MsgR × ByteArray × Bool :=
  let k := rInt s false
  let t := rdI (fT k.1) k.2.1 k.2.2
  let n := rdI (fN k.1) t.2.1 t.2.2
  let c := rdL (fC k.1) tkC n.2.1 n.2.2 64
  let b := rdL (fB k.1) tkB c.2.1 c.2.2 1024
  let i := rdL (fI k.1) tkI b.2.1 b.2.2 1024
  (⟨k.1, t.1, n.1, c.1, b.1, i.1⟩, i.2.1, i.2.2)
def decM (s : ByteArray) : MsgR × Int := if !(rawM s).2.2 && decide ((rawM s).2.1.size = 0) && okM (rawM s).1 then ((rawM s).1, 0) else (msZ, 2)
theorem rdI_back (has : Bool) (n : Int) (h : numB has n = true) (r : List UInt8) : rdI has (txt ((if has then enc n else []) ++ r)) false = (n, txt r, false) := by
  unfold rdI
  unfold numB at h
  cases has with
  | true =>
    simp only [if_true, Bool.and_eq_true, decide_eq_true_eq] at h ⊢
    rw [rInt_enc n (by unfold In64; omega)]
  | false =>
    simp only [Bool.false_eq_true, if_false, decide_eq_true_eq] at h ⊢
    rw [h]
    rfl
theorem rdL_back {α : Type} {ok : α → Bool} {en : α → List UInt8} {tk : ByteArray → Bool → α × ByteArray × Bool} (hb : Back ok en tk) (has : Bool) (xs : List α) (most : Nat) (hm : most ≤ 1024) (h : allB ok has xs most = true) (r : List UInt8) :
    rdL has tk (txt ((if has then encL en xs else []) ++ r)) false most = (xs, txt r, false) := by
  unfold allB at h
  simp only [Bool.and_eq_true, Bool.or_eq_true, decide_eq_true_eq, List.all_eq_true] at h
  obtain ⟨⟨h1, h2⟩, h3⟩ := h
  unfold rdL
  cases has with
  | true =>
    simp only [if_true]
    exact readL_back hb xs most (by omega) (by omega) r h3
  | false =>
    have : xs = [] := by
      rcases h1 with h1 | h1
      · cases h1
      · exact List.length_eq_zero_iff.1 h1
    subst this
    simp
theorem rawM_back (m : MsgR) (h : okM m = true) (r : List UInt8) : rawM (txt (encM m ++ r)) = (m, txt r, false) := by
  unfold okM at h
  simp only [Bool.and_eq_true] at h
  obtain ⟨⟨⟨⟨⟨⟨h1, h2⟩, h3⟩, h4⟩, h5⟩, h6⟩, h7⟩ := h
  have hk : In64 m.kind := by
    unfold fK at h1
    simp at h1
    unfold In64
    omega
  have b4 := rdL_back tkC_back (fC m.kind) m.cs 64 (by decide) h4
  have b5 := rdL_back tkB_back (fB m.kind) m.bs 1024 (by decide) h5
  have b6 := rdL_back tkI_back (fI m.kind) m.is 1024 (by decide) h6
  have b2 := rdI_back (fT m.kind) m.t h2
  have b3 := rdI_back (fN m.kind) m.n h3
  rw [show ((64 : Nat) : Int) = 64 from rfl] at b4
  rw [show ((1024 : Nat) : Int) = 1024 from rfl] at b5 b6
  unfold rawM encM
  simp only [List.append_assoc, rInt_enc _ hk, b2, b3, b4, b5, b6]
theorem rdI_only {has : Bool} {s : ByteArray} {b : Bool} {n : Int} {s' : ByteArray} (h : rdI has s b = (n, s', false)) : b = false ∧ bytes s = (if has then enc n else []) ++ bytes s' := by
  unfold rdI at h
  cases has with
  | true =>
    simp only [if_true] at h ⊢
    obtain rfl := rInt_stay _ _ _ _ h
    exact ⟨rfl, (rInt_only _ _ _ h).2⟩
  | false =>
    simp only [Bool.false_eq_true, if_false, Prod.mk.injEq] at h ⊢
    obtain ⟨-, rfl, rfl⟩ := h
    exact ⟨rfl, rfl⟩
theorem rdL_only {α : Type} {ok : α → Bool} {en : α → List UInt8} {tk : ByteArray → Bool → α × ByteArray × Bool} (ho : Only ok en tk) {has : Bool} {s : ByteArray} {b : Bool} {most : Int} {xs : List α} {s' : ByteArray} (h : rdL has tk s b most = (xs, s', false)) : b = false ∧ bytes s = (if has then encL en xs else []) ++ bytes s' := by
  unfold rdL at h
  cases has with
  | true =>
    simp only [if_true] at h ⊢
    obtain ⟨rfl, -, -, h4⟩ := readL_only ho h
    exact ⟨rfl, h4⟩
  | false =>
    simp only [Bool.false_eq_true, if_false, Prod.mk.injEq] at h ⊢
    obtain ⟨-, rfl, rfl⟩ := h
    exact ⟨rfl, rfl⟩
theorem rawM_only (s : ByteArray) (m : MsgR) (s' : ByteArray) (h : rawM s = (m, s', false)) : bytes s = encM m ++ bytes s' := by
  unfold rawM at h
  rcases h1 : rInt s false with ⟨k, s1, b1⟩
  rcases h2 : rdI (fT k) s1 b1 with ⟨t, s2, b2⟩
  rcases h3 : rdI (fN k) s2 b2 with ⟨n, s3, b3⟩
  rcases h4 : rdL (fC k) tkC s3 b3 64 with ⟨c, s4, b4⟩
  rcases h5 : rdL (fB k) tkB s4 b4 1024 with ⟨d, s5, b5⟩
  rcases h6 : rdL (fI k) tkI s5 b5 1024 with ⟨i, s6, b6⟩
  simp only [h1, h2, h3, h4, h5, h6, Prod.mk.injEq] at h
  obtain ⟨rfl, rfl, rfl⟩ := h
  obtain ⟨rfl, g6⟩ := rdL_only tkI_only h6
  obtain ⟨rfl, g5⟩ := rdL_only tkB_only h5
  obtain ⟨rfl, g4⟩ := rdL_only tkC_only h4
  obtain ⟨rfl, g3⟩ := rdI_only h3
  obtain ⟨rfl, g2⟩ := rdI_only h2
  have g1 := (rInt_only _ _ _ h1).2
  rw [g1, g2, g3, g4, g5, g6]
  unfold encM
  simp only [List.append_assoc]
theorem size_bytes (s : ByteArray) : s.size = (bytes s).length := by unfold bytes; rw [Array.length_toList]; rfl
/-- what was encoded is decoded again -/
theorem decM_back (m : MsgR) (h : okM m = true) : decM (txt (encM m)) = (m, 0) := by
  have := rawM_back m h []
  rw [List.append_nil] at this
  unfold decM
  rw [this]
  simp only [h]
  rfl
/-- with more behind it is none -/
theorem decM_more (m : MsgR) (h : okM m = true) (r : List UInt8) (hr : r ≠ []) : decM (txt (encM m ++ r)) = (msZ, 2) := by
  unfold decM
  rw [rawM_back m h r]
  have : ¬ (txt r).size = 0 := by rw [txt_size]; intro e; exact hr (List.length_eq_zero_iff.1 e)
  simp only [this, decide_false, Bool.and_false, Bool.false_and, Bool.false_eq_true, if_false]
theorem decM_cases (s : ByteArray) : (∃ m, decM s = (m, 0) ∧ okM m = true ∧ s = txt (encM m)) ∨ decM s = (msZ, 2) := by
  unfold decM
  split
  · rename_i hc
    simp only [Bool.and_eq_true, Bool.not_eq_true', decide_eq_true_eq] at hc
    obtain ⟨⟨h1, h2⟩, h3⟩ := hc
    refine .inl ⟨_, rfl, h3, ?_⟩
    have h4 := rawM_only s (rawM s).1 (rawM s).2.1 (by rw [← h1])
    have h5 : bytes (rawM s).2.1 = [] := List.length_eq_zero_iff.1 (by rw [← size_bytes]; exact h2)
    rw [h5, List.append_nil] at h4
    rw [← h4]
    rfl
  · exact .inr rfl
/-- no beginning of a message's bytes is one's -/
theorem decM_cut (m : MsgR) (h : okM m = true) (p r : List UInt8) (hr : r ≠ []) (he : encM m = p ++ r) : decM (txt p) = (msZ, 2) := by
  rcases decM_cases (txt p) with ⟨m', h1, h2, h3⟩ | h1
  · exfalso
    have hp : p = encM m' := by simpa [bytes_txt] using congrArg bytes h3
    have e1 := rawM_back m h []
    have e2 := rawM_back m' h2 r
    rw [List.append_nil, he, hp, e2] at e1
    simp only [Prod.mk.injEq, and_true] at e1
    have := txt_inj.1 e1.2
    exact hr this
  · exact h1
theorem encM_ne (m : MsgR) : encM m ≠ [] := by
  unfold encM enc
  simp
end Go.Proofs.YtpdlgflbcgemnaaGreatDoor.Octs
