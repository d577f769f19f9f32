/- BufferLooks: plain laws. -/
import Derived.Test.YtkdagljoiacaaaaBufW
set_option linter.unusedSimpArgs false
set_option linter.unusedVariables false
namespace Go.Proofs.Ytkdagljoiacaaaa
open Go.RowKit
/-- bits of what is left of a mask -/
theorem and_mod {b : Int} (h0 : 0 ≤ b) (h1 : b ≤ 31) (m : Int) : bits .and .i64 b m = bits .and .i64 b (m % 32) := by
  have e : BitVec.ofInt 64 b &&& BitVec.ofInt 64 m = BitVec.ofInt 64 b &&& BitVec.ofInt 64 (m % 32) := by
    apply BitVec.eq_of_getLsbD_eq
    intro j hj
    rw [BitVec.getLsbD_and, BitVec.getLsbD_and, lsb_ofInt, lsb_ofInt, lsb_ofInt]
    by_cases hj5 : 5 ≤ j
    · have : ((b % 18446744073709551616).toNat / 2 ^ j % 2 = 1) = False := by
        have h2 : (b % 18446744073709551616).toNat < 2 ^ j := by
          have : (2 : Nat) ^ 5 ≤ 2 ^ j := Nat.pow_le_pow_right (by omega) hj5
          omega
        rw [Nat.div_eq_of_lt h2]
        simp
      simp [this]
    · congr 1
      rcases (by omega : j = 0 ∨ j = 1 ∨ j = 2 ∨ j = 3 ∨ j = 4) with rfl | rfl | rfl | rfl | rfl <;> (simp only [Nat.reducePow]; congr 1; apply propext; omega)
  show IntKind.i64.wrap ((BitVec.ofInt 64 b &&& BitVec.ofInt 64 m).toNat : Nat) = IntKind.i64.wrap ((BitVec.ofInt 64 b &&& BitVec.ofInt 64 (m % 32)).toNat : Nat)
  rw [e]
theorem bitB_mod (m : Int) {p : Int} (hp : p = 1 ∨ p = 2 ∨ p = 4 ∨ p = 8 ∨ p = 16) : bitB m p = bitB (m % 32) p := by
  unfold bitB
  rcases hp with rfl | rfl | rfl | rfl | rfl <;> (congr 1; apply propext; omega)
theorem left_fin : ∀ b m : Fin 32, ∀ p : Fin 5, bitB ((b.val : Int) - bits .and .i64 b.val m.val) (2 ^ p.val : Nat) = (bitB b.val (2 ^ p.val : Nat) && !bitB m.val (2 ^ p.val : Nat)) := by decide +kernel
theorem bit_left {b : Int} (h0 : 0 ≤ b) (h1 : b ≤ 31) (m : Int) {p : Int} (hp : p = 1 ∨ p = 2 ∨ p = 4 ∨ p = 8 ∨ p = 16) : bitB (b - bits .and .i64 b m) p = (bitB b p && !bitB m p) := by
  rw [and_mod h0 h1, bitB_mod m hp]
  have hb : ((b.toNat : Nat) : Int) = b := by omega
  have hm : (((m % 32).toNat : Nat) : Int) = m % 32 := by omega
  have key := fun p => left_fin ⟨b.toNat, by omega⟩ ⟨(m % 32).toNat, by omega⟩ p
  simp only [hb, hm] at key
  rcases hp with rfl | rfl | rfl | rfl | rfl
  · exact key 0
  · exact key 1
  · exact key 2
  · exact key 3
  · exact key 4
theorem or_self_fin : ∀ b : Fin 32, bits .or .i64 b.val b.val = b.val := by decide +kernel
theorem withB_self {b : BdR} (h : okB b = true) : withB b b = b := by
  obtain ⟨h0, h1⟩ := okB_mask h
  have hb : ((b.mask.toNat : Nat) : Int) = b.mask := by omega
  have e : bits .or .i64 b.mask b.mask = b.mask := by
    have := or_self_fin ⟨b.mask.toNat, by omega⟩
    simp only [hb] at this
    exact this
  unfold withB pick
  rw [e]
  simp only [ite_self]
theorem within_left {h1 h2 : Bool} {n lo hi : Int} (h : withinB h1 n lo hi = true) : withinB (h1 && !h2) (if h2 then 0 else n) lo hi = true := by
  cases h2
  · simpa using h
  · cases h1 <;> simp [withinB]
theorem ok_without {b : BdR} (h : okB b = true) (m : Int) : okB (withoutB b m) = !bitB m 1 := by
  obtain ⟨h0, h1⟩ := okB_mask h
  obtain ⟨e1, e2, e3⟩ := without_mask h0 h1 m
  unfold okB at h ⊢
  rw [rightB_and] at h ⊢
  simp only [Bool.and_eq_true] at h
  obtain ⟨⟨⟨hm, hx, hy, hvx, hvy, hhp, hpw, hlf⟩, hp⟩, hid⟩ := h
  have g := fun {p : Int} hp => bit_left h0 h1 m (p := p) hp
  have em : maskB (withoutB b m).mask = true := by
    unfold maskB withoutB
    simp only [Bool.and_eq_true, decide_eq_true_eq]
    omega
  rw [em]
  unfold withoutB pick
  simp only
  rw [g (by simp), g (by simp), g (by simp), g (by simp), g (by simp), within_left hx, within_left hy, within_left hvx, within_left hvy, within_left hhp, within_left hpw, within_left hlf, hp, hid]
  simp
/-- a deed for each -/
def deedsOf (kind mask : Int) (es : List BdR) : List DdR := es.map fun e => ⟨kind, e, mask⟩
theorem cut_get {T : Tabs} (hg : GoodT T) {a : IdR} {m i : Nat} (hf : findT T a = some (m, i)) {c : BdR} (hcf : (findT T c.id).isSome = true) (hcg : getS T c.id = c) (hne : c.id ≠ a) :
    (findT (cutT T m i) c.id).isSome = true ∧ getS (cutT T m i) c.id = c := by
  obtain ⟨hm, o, ho, hoid⟩ := findT_some hf
  have hil := (List.getElem?_eq_some_iff.1 ho).1
  obtain ⟨⟨m', i'⟩, hfc⟩ := Option.isSome_iff_exists.1 hcf
  obtain ⟨hm', hc', _⟩ := find_get hfc
  rw [hcg] at hc'
  have hbrow : (T m)[(T m).length - 1]? = some (T m)[(T m).length - 1] := List.getElem?_eq_getElem (by omega)
  have e2 := find_cut hg hm ho hbrow c.id
  rw [if_neg (fun k => hne (k.trans hoid))] at e2
  have hex : ∃ m2 i2, findT (cutT T m i) c.id = some (m2, i2) ∧ ((cutT T m i) m2)[i2]? = some c := by
    by_cases hz : c.id = (T m)[(T m).length - 1].id
    · rw [if_pos hz] at e2
      refine ⟨m, i, e2, ?_⟩
      obtain ⟨rfl, rfl⟩ := hg.uniq m' i' m _ c _ hm' hm hc' hbrow hz
      have hni : i ≠ (T m').length - 1 := fun k => hne (by
        rw [k, hc'] at ho
        cases ho
        exact hoid)
      rw [cutT_get, if_pos rfl, if_pos (by omega), if_pos rfl]
      exact hc'
    · rw [if_neg hz, hfc] at e2
      refine ⟨m', i', e2, ?_⟩
      rw [cutT_get]
      by_cases hmm : m' = m
      · subst hmm
        have hn1 : i' ≠ (T m').length - 1 := fun k => hz (by rw [k, hbrow] at hc'; cases hc'; rfl)
        have hi' := (List.getElem?_eq_some_iff.1 hc').1
        have hni : i' ≠ i := fun k => hne (by rw [k, ho] at hc'; cases hc'; exact hoid)
        rw [if_pos rfl, if_pos (by omega), if_neg hni]
        exact hc'
      · rw [if_neg hmm]
        exact hc'
  obtain ⟨m2, i2, h2, h3⟩ := hex
  refine ⟨by rw [h2]; rfl, ?_⟩
  unfold getS
  rw [h2]
  simp only
  rw [List.getD_eq_getElem?_getD, h3]
  rfl
theorem write_self {T : Tabs} (hg : GoodT T) {e : BdR} (hok : okB e = true) (hf : (findT T e.id).isSome = true) (hge : getS T e.id = e) : writeS T e = (T, 0) := by
  obtain ⟨⟨m, i⟩, hfs⟩ := Option.isSome_iff_exists.1 hf
  obtain ⟨hm, hi, _⟩ := find_get hfs
  rw [hge] at hi
  have hmk := (hg.ok m hm e (List.mem_of_getElem? hi)).2
  unfold writeS
  rw [if_pos hok, hfs]
  simp only
  rw [if_pos hmk.symm]
  have : setT T m i e = T := by
    funext k
    unfold setT upd
    by_cases hk : k = m
    · subst hk
      rw [if_pos rfl]
      apply List.ext_getElem?
      intro j
      rw [List.getElem?_set]
      by_cases hj : i = j
      · subst hj
        rw [if_pos rfl, if_pos (List.getElem?_eq_some_iff.1 hi).1, hi]
      · rw [if_neg hj]
    · rw [if_neg hk]
  rw [this]
structure There (T : Tabs) (e : BdR) : Prop where
  ok : okB e = true
  f : (findT T e.id).isSome = true
  g : getS T e.id = e
/-- one deed for one that is there -/
theorem look_one {T : Tabs} (hg : GoodT T) (kind mask : Int) {e : BdR} (h : There T e) :
    total (doT T ⟨kind, e, mask⟩).1 + (if kind = 2 then 1 else 0) = total T ∧ (kind = 3 → (doT T ⟨kind, e, mask⟩).2 = 0) ∧ (kind = 4 → ((doT T ⟨kind, e, mask⟩).2 = 0 ↔ bitB mask 1 = false)) ∧
    ∀ c : BdR, c.id ≠ e.id → There T c → There (doT T ⟨kind, e, mask⟩).1 c := by
  have hmk := okB_mask h.ok
  by_cases h2 : kind = 2
  · subst h2
    rw [doT_two, if_pos h.f]
    obtain ⟨⟨m, i⟩, hf⟩ := Option.isSome_iff_exists.1 h.f
    have er : (removeS T e.id).1 = cutT T m i := by unfold removeS; rw [hf]
    obtain ⟨c1, c2⟩ := cut_total hf
    simp only
    rw [er]
    refine ⟨by simp; omega, fun k => by omega, fun k => by omega, fun c hc ht => ?_⟩
    obtain ⟨g1, g2⟩ := cut_get hg hf ht.f ht.g hc
    exact ⟨ht.ok, g1, g2⟩
  by_cases h3 : kind = 3
  · subst h3
    rw [doT_three, if_pos h.f, h.g, withB_self h.ok, write_self hg h.ok h.f h.g]
    exact ⟨by simp, fun _ => rfl, fun k => by omega, fun c _ ht => ht⟩
  by_cases h4 : kind = 4
  · subst h4
    rw [doT_four, if_pos h.f, h.g]
    have ho := ok_without h.ok mask
    cases hb : bitB mask 1 with
    | true =>
      rw [hb] at ho
      have e1 : writeS T (withoutB e mask) = (T, 1) := by unfold writeS; rw [if_neg (by rw [ho]; simp)]
      rw [e1]
      exact ⟨by simp, fun k => by omega, fun _ => by simp, fun c _ ht => ht⟩
    | false =>
      rw [hb] at ho
      have h0 : (writeS T (withoutB e mask)).2 = 0 := by
        obtain ⟨⟨m, i⟩, hf⟩ := Option.isSome_iff_exists.1 h.f
        unfold writeS
        rw [if_pos (by rw [ho]; rfl), show (withoutB e mask).id = e.id from rfl, hf]
        simp only
        split <;> rfl
      obtain ⟨w1, w2, w3⟩ := writeS_get hg h0
      refine ⟨by rw [w2]; simp, fun k => by omega, fun _ => ⟨fun _ => rfl, fun _ => h0⟩, fun c hc ht => ?_⟩
      have hca : c ∈ allT T := by
        have := (get_id ht.f).2
        rw [ht.g] at this
        exact this
      obtain ⟨x1, x2⟩ := w3 c hca
      rw [if_neg (show ¬ c.id = (withoutB e mask).id from hc)] at x2
      exact ⟨ht.ok, x1, x2⟩
  have e1 : (doT T ⟨kind, e, mask⟩).1 = T := by
    unfold doT
    simp only
    split
    · rfl
    · split
      · unfold putS
        rw [if_pos h.ok, if_pos h.f]
      · omega
  rw [e1, if_neg h2]
  exact ⟨by simp, fun k => by omega, fun k => by omega, fun c _ ht => ht⟩
theorem looks {T : Tabs} (hg : GoodT T) (kind mask : Int) (es : List BdR) (hp : es.Pairwise (fun a b => a.id ≠ b.id)) (h : ∀ e ∈ es, There T e) :
    total (doAll T (deedsOf kind mask es)) + (if kind = 2 then es.length else 0) = total T ∧ (kind = 3 → ∀ x ∈ errs T (deedsOf kind mask es), x = 0) ∧ (kind = 4 → ∀ x ∈ errs T (deedsOf kind mask es), (x = 0 ↔ bitB mask 1 = false)) := by
  induction es generalizing T with
  | nil => exact ⟨by show total T + _ = _; simp, fun _ x hx => (by cases hx), fun _ x hx => (by cases hx)⟩
  | cons e r ih =>
    obtain ⟨h1, h2, h3, h4⟩ := look_one hg kind mask (h e (List.mem_cons_self))
    rw [List.pairwise_cons] at hp
    obtain ⟨g1, g2, g3⟩ := ih (good_doT hg ⟨kind, e, mask⟩) hp.2 (fun c hc => h4 c (fun k => hp.1 c hc k.symm) (h c (List.mem_cons_of_mem _ hc)))
    have ed : doAll T (deedsOf kind mask (e :: r)) = doAll (doT T ⟨kind, e, mask⟩).1 (deedsOf kind mask r) := rfl
    have ee : errs T (deedsOf kind mask (e :: r)) = (doT T ⟨kind, e, mask⟩).2 :: errs (doT T ⟨kind, e, mask⟩).1 (deedsOf kind mask r) := rfl
    rw [ed, ee]
    refine ⟨?_, fun k x hx => ?_, fun k x hx => ?_⟩
    · rw [List.length_cons]
      split
      · rename_i hk
        rw [if_pos hk] at h1 g1
        omega
      · rename_i hk
        rw [if_neg hk] at h1 g1
        omega
    · rcases List.mem_cons.1 hx with rfl | hx
      · exact h2 k
      · exact g2 k x hx
    · rcases List.mem_cons.1 hx with rfl | hx
      · exact h3 k
      · exact g3 k x hx
theorem looks_all {T : Tabs} (hg : GoodT T) (kind mask : Int) :
    total (doAll T (deedsOf kind mask (allT T))) + (if kind = 2 then total T else 0) = total T ∧ (kind = 3 → ∀ x ∈ errs T (deedsOf kind mask (allT T)), x = 0) ∧ (kind = 4 → ∀ x ∈ errs T (deedsOf kind mask (allT T)), (x = 0 ↔ bitB mask 1 = false)) := by
  have hf := all_fine hg
  have := looks hg kind mask (allT T) hf.nd (fun e he => by
    obtain ⟨m, i, hm, hi, hfe⟩ := all_find hg e he
    refine ⟨hf.ok e he, by rw [hfe]; rfl, ?_⟩
    unfold getS
    rw [hfe]
    simp only
    rw [List.getD_eq_getElem?_getD, hi]
    rfl)
  rw [allT_length] at this
  exact this
end Go.Proofs.Ytkdagljoiacaaaa
