/- codec: what was laid is read again, and only that is read: plain laws. -/
import Derived.Test.YtjfjecjigakdnaaCodQ1
set_option linter.unusedSimpArgs false
set_option linter.unusedVariables false
namespace Go.Proofs.Ytjfjecjigakdnaa.Octs
open Go.RowKit
/-- what was laid is read again -/
def Back {α : Type} (ok : α → Bool) (enc : α → List UInt8) (tk : ByteArray → Bool → α × ByteArray × Bool) : Prop := ∀ x r, ok x = true → tk (txt (enc x ++ r)) false = (x, txt r, false)
/-- only what was laid is read -/
def Only {α : Type} (ok : α → Bool) (enc : α → List UInt8) (tk : ByteArray → Bool → α × ByteArray × Bool) : Prop := ∀ s x s', tk s false = (x, s', false) → ok x = true ∧ bytes s = enc x ++ bytes s'
theorem rInt_true (s : ByteArray) : rInt s true = (0, s, true) := rfl
/-- a reader that is bad stays bad -/
theorem rInt_stay (s : ByteArray) (b : Bool) (n : Int) (s' : ByteArray) (h : rInt s b = (n, s', false)) : b = false := by
  cases b with
  | false => rfl
  | true => rw [rInt_true] at h; simp at h
theorem rs3_back (a : IdR) (r : List UInt8) (h1 : In64 a.s) (h2 : In64 a.i) (h3 : In64 a.g) : rs3 (txt (encs (idInts a) ++ r)) false = (a, txt r, false) := by
  have e : encs (idInts a) ++ r = enc a.s ++ (enc a.i ++ (enc a.g ++ r)) := by simp [encs, idInts]
  unfold rs3
  rw [e]
  simp only [rInt_enc _ h1, rInt_enc _ h2, rInt_enc _ h3]
theorem idB_in {a : IdR} (h : idB a = true) : In64 a.s ∧ In64 a.i ∧ In64 a.g := by
  unfold idB withinB at h
  simp at h
  unfold In64
  omega
theorem snd_ok {α : Type} {ok : Bool} {z x y : α} {s s' : ByteArray} {b : Bool} (h : snd ok z x s b = (y, s', false)) : ok = true ∧ b = false ∧ x = y ∧ s = s' := by
  unfold snd at h
  cases b <;> cases ok <;> simp at h
  exact ⟨rfl, rfl, h.1, h.2⟩
theorem tkI_back : Back idB encI tkI := fun a r h => by
  obtain ⟨h1, h2, h3⟩ := idB_in h
  unfold tkI encI
  rw [if_pos h, rs3_back a r h1 h2 h3]
  simp only [h]
  rfl
theorem rs3_only {s : ByteArray} {b : Bool} {a : IdR} {s' : ByteArray} (h : rs3 s b = (a, s', false)) : b = false ∧ bytes s = encs (idInts a) ++ bytes s' := by
  unfold rs3 at h
  rcases h1 : rInt s b with ⟨n1, s1, b1⟩
  rcases h2 : rInt s1 b1 with ⟨n2, s2, b2⟩
  rcases h3 : rInt s2 b2 with ⟨n3, s3, b3⟩
  simp only [h1, h2, h3, Prod.mk.injEq] at h
  obtain ⟨rfl, rfl, rfl⟩ := h
  obtain rfl := rInt_stay _ _ _ _ h3
  obtain rfl := rInt_stay _ _ _ _ h2
  obtain rfl := rInt_stay _ _ _ _ h1
  refine ⟨rfl, ?_⟩
  rw [(rInt_only _ _ _ h1).2, (rInt_only _ _ _ h2).2, (rInt_only _ _ _ h3).2]
  simp [encs, idInts]
theorem tkI_stay {s : ByteArray} {b : Bool} {a : IdR} {s' : ByteArray} (h : tkI s b = (a, s', false)) : b = false := by
  unfold tkI at h
  obtain ⟨h1, h2, h3, h4⟩ := snd_ok h
  exact (rs3_only (a := a) (s' := s') (Prod.ext h3 (Prod.ext h4 h2))).1
theorem tkI_only : Only idB encI tkI := fun s a s' h => by
  unfold tkI at h
  obtain ⟨h1, h2, h3, h4⟩ := snd_ok h
  have h5 := (rs3_only (a := a) (s' := s') (Prod.ext h3 (Prod.ext h4 h2))).2
  rw [h3] at h1
  refine ⟨h1, ?_⟩
  unfold encI
  rw [if_pos h1]
  exact h5
/-- the components that are read -/
theorem fill_back (b : BdR) : ∀ (l : List Nat) (t : BdR) (r : List UInt8), (∀ o ∈ l, In64 (fieldB b o)) → fillB (t, txt (encs (l.map (fieldB b)) ++ r), false) l = (l.foldl (fun a o => setF a o (fieldB b o)) t, txt r, false)
  | [], t, r, _ => rfl
  | o :: l, t, r, h => by
    have e : encs ((o :: l).map (fieldB b)) ++ r = enc (fieldB b o) ++ (encs (l.map (fieldB b)) ++ r) := by simp [encs]
    show fillB (stepB (t, _, false) o) l = _
    unfold stepB
    rw [e]
    simp only [rInt_enc _ (h o (by simp))]
    exact fill_back b l _ r (fun o' ho => h o' (by simp [ho]))
theorem rightB_in {b : BdR} (h : rightB b = true) : (0 ≤ b.mask ∧ b.mask ≤ 31) ∧ (∀ o, In64 (fieldB b o)) := by
  unfold rightB rowsB at h
  simp only [Bool.and_eq_true, List.all_cons, List.all_nil, WR.ok, withinB, maskB, decide_eq_true_eq] at h
  obtain ⟨hm, h1, h2, h3, h4, h5, h6, h7, -⟩ := h
  refine ⟨hm, fun o => ?_⟩
  unfold In64 fieldB
  split
  · split at h1 <;> simp at h1 <;> omega
  · split at h2 <;> simp at h2 <;> omega
  · split at h3 <;> simp at h3 <;> omega
  · split at h4 <;> simp at h4 <;> omega
  · split at h5 <;> simp at h5 <;> omega
  · split at h6 <;> simp at h6 <;> omega
  · split at h7 <;> simp at h7 <;> omega
theorem fold_right {b : BdR} (h : rightB b = true) : (offs b.mask 7).foldl (fun a o => setF a o (fieldB b o)) ⟨⟨0, 0, 0⟩, b.mask, 0, 0, 0, 0, 0, 0, 0⟩ = { b with id := ⟨0, 0, 0⟩ } := by
  unfold rightB rowsB at h
  simp only [Bool.and_eq_true, List.all_cons, List.all_nil, WR.ok, withinB] at h
  obtain ⟨-, h1, h2, h3, h4, h5, h6, h7, -⟩ := h
  obtain ⟨i, m, x, y, vx, vy, hp, pw, lf⟩ := b
  simp only at h1 h2 h3 h4 h5 h6 h7 ⊢
  unfold offs crows
  cases e1 : bitB m 1 <;> cases e2 : bitB m 2 <;> cases e4 : bitB m 4 <;> cases e8 : bitB m 8 <;> cases e16 : bitB m 16 <;>
    simp [e1, e2, e4, e8, e16] at h1 h2 h3 h4 h5 h6 h7 <;> simp [List.filter, fieldB, setF, e1, e2, e4, e8, e16, *]
theorem rawR_back {b : BdR} (h : rightB b = true) (r : List UInt8) : rawR (txt (restB b ++ r)) false = ({ b with id := ⟨0, 0, 0⟩ }, txt r, false) := by
  obtain ⟨hm, hf⟩ := rightB_in h
  have e : restB b ++ r = enc b.mask ++ (encs (comps b.mask b) ++ r) := by simp [restB, encs]
  have hi : In64 b.mask := by unfold In64; omega
  unfold rawR
  rw [e, rInt_enc _ hi]
  simp only
  rw [if_neg (by omega), comps_offs, fill_back b _ _ _ (fun o _ => hf o), fold_right h]
theorem tkR_back {b : BdR} (h : rightB b = true) (r : List UInt8) : tkR (txt (restB b ++ r)) false = ({ b with id := ⟨0, 0, 0⟩ }, txt r, false) := by
  unfold tkR
  rw [rawR_back h]
  rfl
theorem fieldB_setF (t : BdR) (o o' : Nat) (x : Int) (h : 4 ≤ o ∧ o ≤ 10) (h' : 4 ≤ o' ∧ o' ≤ 10) : fieldB (setF t o x) o' = if o' = o then x else fieldB t o' := by
  rcases (by omega : o = 4 ∨ o = 5 ∨ o = 6 ∨ o = 7 ∨ o = 8 ∨ o = 9 ∨ o = 10) with rfl | rfl | rfl | rfl | rfl | rfl | rfl <;>
    (rcases (by omega : o' = 4 ∨ o' = 5 ∨ o' = 6 ∨ o' = 7 ∨ o' = 8 ∨ o' = 9 ∨ o' = 10) with rfl | rfl | rfl | rfl | rfl | rfl | rfl <;> rfl)
theorem fill_only : ∀ (l : List Nat) (t : BdR) (s : ByteArray) (b : Bool) (t' : BdR) (s' : ByteArray), fillB (t, s, b) l = (t', s', false) → l.Nodup → (∀ o ∈ l, 4 ≤ o ∧ o ≤ 10) →
    b = false ∧ bytes s = encs (l.map (fieldB t')) ++ bytes s' ∧ ∀ o, o ∉ l → 4 ≤ o ∧ o ≤ 10 → fieldB t' o = fieldB t o
  | [], t, s, b, t', s', h, _, _ => by
    obtain ⟨rfl, rfl, rfl⟩ : t = t' ∧ s = s' ∧ b = false := by simpa [fillB] using h
    exact ⟨rfl, by simp [encs], fun _ _ _ => rfl⟩
  | o :: l, t, s, b, t', s', h, hn, ho => by
    have h1 : fillB (stepB (t, s, b) o) l = (t', s', false) := h
    unfold stepB at h1
    simp only at h1
    rcases hr : rInt s b with ⟨n, s1, b1⟩
    rw [hr] at h1
    simp only at h1
    rw [List.nodup_cons] at hn
    obtain ⟨rfl, h2, h3⟩ := fill_only l _ _ _ _ _ h1 hn.2 (fun o' h' => ho o' (by simp [h']))
    obtain rfl := rInt_stay _ _ _ _ hr
    have h4 := h3 o hn.1 (ho o (by simp))
    rw [fieldB_setF _ _ _ _ (ho o (by simp)) (ho o (by simp)), if_pos rfl] at h4
    refine ⟨rfl, ?_, fun o' h5 h6 => ?_⟩
    · rw [(rInt_only _ _ _ hr).2, h2, List.map_cons, h4]
      simp [encs]
    · simp at h5
      rw [h3 o' h5.2 h6, fieldB_setF _ _ _ _ (ho o (by simp)) h6, if_neg h5.1]
theorem offs_nodup (m : Int) : (offs m 7).Nodup := by
  unfold offs crows
  cases e1 : bitB m 1 <;> cases e2 : bitB m 2 <;> cases e4 : bitB m 4 <;> cases e8 : bitB m 8 <;> cases e16 : bitB m 16 <;> simp [List.filter, e1, e2, e4, e8, e16]
theorem rawR_only {s : ByteArray} {b : Bool} {x : BdR} {s' : ByteArray} (h : rawR s b = (x, s', false)) : b = false ∧ bytes s = restB x ++ bytes s' ∧ x.id = ⟨0, 0, 0⟩ := by
  unfold rawR at h
  split at h
  · simp at h
  · rcases hr : rInt s b with ⟨n, s1, b1⟩
    rw [hr] at h
    simp only at h
    have hm := fill_mask (⟨⟨0, 0, 0⟩, n, 0, 0, 0, 0, 0, 0, 0⟩, s1, b1) (offs n 7)
    obtain ⟨rfl, h2, h3⟩ := fill_only _ _ _ _ _ _ h (offs_nodup _) (fun o ho => offs_in _ o ho)
    rw [h] at hm
    simp only at hm
    obtain rfl := rInt_stay _ _ _ _ hr
    refine ⟨rfl, ?_, hm.2⟩
    rw [(rInt_only _ _ _ hr).2, h2]
    unfold restB
    rw [comps_offs, hm.1]
    simp [encs]
theorem tkR_only {s : ByteArray} {b : Bool} {x : BdR} {s' : ByteArray} (h : tkR s b = (x, s', false)) : b = false ∧ bytes s = restB x ++ bytes s' ∧ x.id = ⟨0, 0, 0⟩ := by
  unfold tkR at h
  obtain ⟨-, h2, h3, h4⟩ := snd_ok h
  exact rawR_only (x := x) (s' := s') (Prod.ext h3 (Prod.ext h4 h2))
theorem restB_id (b : BdR) (i : IdR) : restB { b with id := i } = restB b := rfl
theorem tkB_back : Back okB encB tkB := fun b r h => by
  have h' := h
  unfold okB at h'
  simp only [Bool.and_eq_true] at h'
  obtain ⟨⟨h1, h2⟩, h3⟩ := h'
  unfold tkB encB
  rw [if_pos h, List.append_assoc, tkI_back b.id _ h3]
  simp only [tkR_back h1]
  have e : ({ ({ b with id := ⟨0, 0, 0⟩ } : BdR) with id := b.id } : BdR) = b := rfl
  rw [e, h]
  rfl
theorem tkB_only : Only okB encB tkB := fun s x s' h => by
  unfold tkB at h
  rcases h1 : tkI s false with ⟨i, s1, b1⟩
  rcases h2 : tkR s1 b1 with ⟨q, s2, b2⟩
  simp only [h1, h2] at h
  obtain ⟨h3, h4, h5, h6⟩ := snd_ok h
  subst h4 h6
  obtain ⟨rfl, h7, h8⟩ := tkR_only h2
  obtain ⟨h9, h10⟩ := tkI_only _ _ _ h1
  rw [h5] at h3
  refine ⟨h3, ?_⟩
  unfold encB
  rw [if_pos h3, h10, h7, ← h5]
  simp [restB_id]
theorem tkB_stay {s : ByteArray} {b : Bool} {x : BdR} {s' : ByteArray} (h : tkB s b = (x, s', false)) : b = false := by
  unfold tkB at h
  rcases h1 : tkI s b with ⟨i, s1, b1⟩
  rcases h2 : tkR s1 b1 with ⟨q, s2, b2⟩
  simp only [h1, h2] at h
  obtain ⟨h3, h4, h5, h6⟩ := snd_ok h
  subst h4
  obtain ⟨rfl, -, -⟩ := tkR_only h2
  exact tkI_stay h1
end Go.Proofs.Ytjfjecjigakdnaa.Octs
