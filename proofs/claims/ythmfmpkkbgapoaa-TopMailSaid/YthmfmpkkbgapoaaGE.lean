/- Plain laws and walks: MailP, MailQ. -/
import Derived.Test.YthmfmpkkbgapoaaPair
import Derived.Test.YthmfmpkkbgapoaaGu
import Derived.Test.YthmfmpkkbgapoaaGt
-- MailP
/- top: two nodes and the net between them, as plain data; what stays so whatever comes: plain laws. -/
set_option linter.unusedSimpArgs false
set_option linter.unusedVariables false
namespace Go.Proofs.Ythmfmpkkbgapoaa
open Go.RowKit Octs Ses
/-- the state, as plain data; a post under way knows whether it goes to node 1 -/
structure St where
  c : Bool → Ch
  h : Bool → List MsgR
  gn : List (Bool × Post)
def pkOf (x : Bool × Post) : Pk := ⟨if x.1 then 0 else 1, if x.1 then 1 else 0, encP x.2⟩
def St.pr (g : St) : Pr := ⟨g.c false, g.c true, g.gn.map pkOf, g.h false, g.h true, false⟩
def mT (m : MsgR) : ByteArray := Octs.txt (encM m)
def wayOf (b : Bool) (l : List (Bool × Post)) : List Post := (l.filter fun x => x.1 == b).map Prod.snd
def St.side (g : St) (S : Bool → List MsgR) (k : Bool) : Side := ⟨g.c k, (S k).map mT, (g.h k).map mT, wayOf k g.gn⟩
def upd {α : Type} (f : Bool → α) (k : Bool) (v : α) : Bool → α := fun j => if j = k then v else f j
theorem upd_same {α : Type} (f : Bool → α) (k : Bool) (v : α) : upd f k v k = v := if_pos rfl
theorem upd_not {α : Type} (f : Bool → α) (k : Bool) (v : α) : upd f k v (!k) = f (!k) := if_neg (by cases k <;> simp)
theorem upd_id {α : Type} (f : Bool → α) (k : Bool) : upd f k (f k) = f := funext fun j => by unfold upd; split <;> simp_all
def St.post (g : St) (k : Bool) : St := ⟨upd g.c k (pst (g.c k)), g.h, g.gn ++ (postsL (g.c k)).map fun q => (!k, q)⟩
def hmsg (c : Ch) (q : Post) : List MsgR := if (hear c q).1.is then [(decM (hear c q).1.text).1] else []
def St.come (g : St) (x : Bool × Post) : St := ⟨upd g.c x.1 (hear (g.c x.1) x.2).2.2, upd g.h x.1 (g.h x.1 ++ hmsg (g.c x.1) x.2), g.gn⟩
def St.net (g : St) (l : List (Bool × Post)) : St := ⟨g.c, g.h, l⟩
def St.say (g : St) (k : Bool) (t : ByteArray) : St := ⟨upd g.c k (sayC (g.c k) [t]), g.h, g.gn⟩
theorem Inv_tight {T T' : Nat} {next : Int} {d o : Side} {old : List Old} (h : Inv T next d o old) (hn : next ≤ T' + 2) (h1 : d.said.length ≤ T') (h2 : o.said.length ≤ T') (h3 : ∀ e ∈ old, e.said.length ≤ T') : Inv T' next d o old := by
  have key : ∀ {d o : Side}, Self T next d old → Hears d o old → d.said.length ≤ T' → o.said.length ≤ T' → Self T' next d old := fun {d o} hd hh h1 h2 =>
    ⟨hd.m1, hd.m2, hd.y0, hd.f1, hd.wait, h1, hd.small, by
      have hl := hh.last
      have hp := hh.pre.length_le
      have hS : (SAID o old d.c.yours d.c.mine).length ≤ T' := by
        unfold SAID
        split
        · exact h2
        · unfold oldSaid
          cases hf : old.find? (Old.is d.c.yours d.c.mine) with
          | none => simp
          | some e => exact h3 e (List.mem_of_find?_eq_some hf)
      omega, hd.uniq⟩
  exact ⟨hn, key h.d1 h.d2 h1 h2, key h.o1 h.o2 h2 h1, h.d2, h.o2, h.ne, h.olds⟩
structure GI0 (S : Bool → List MsgR) (g : St) (old : List Old) : Prop where
  inv : ∀ k, Inv 20 8 (g.side S k) (g.side S !k) old
  net : ∀ k, Ses.Net2 (g.side S k) (g.side S !k)
  olds : ∀ e ∈ old, e.said = []
  mine : ∀ k, (g.c k).mine = if k then 8 else 3
  yours : ∀ k, (g.c k).yours = (g.c !k).mine ∨ (S k = [] ∧ g.h k = [] ∧ (g.c k).yours = 0)
  way : ∀ x ∈ g.gn, x.2.mine = (g.c !x.1).mine
  few : ∀ k, (S k).length ≤ 12
  ok : ∀ k, ∀ m ∈ S k, okM m = true
  okH : ∀ k, ∀ m ∈ g.h k, okM m = true
def GI (S : Bool → List MsgR) (g : St) : Prop := ∃ old, GI0 S g old
theorem both_of (P : Bool → Prop) (k : Bool) (h1 : P k) (h2 : P !k) : ∀ j, P j := fun j => by
  cases j <;> cases k <;> assumption
theorem wayOf_mem {b : Bool} {l : List (Bool × Post)} {x : Post} : x ∈ wayOf b l ↔ (b, x) ∈ l := by
  unfold wayOf
  constructor
  · intro h
    obtain ⟨⟨b', y⟩, hy, rfl⟩ := List.mem_map.1 h
    obtain ⟨h1, h2⟩ := List.mem_filter.1 hy
    simp at h2
    subst h2
    exact h1
  · intro h
    exact List.mem_map.2 ⟨(b, x), List.mem_filter.2 ⟨h, by simp⟩, rfl⟩
theorem wayOf_append (b : Bool) (l m : List (Bool × Post)) : wayOf b (l ++ m) = wayOf b l ++ wayOf b m := by simp [wayOf]
theorem wayOf_map_same (b : Bool) (ps : List Post) : wayOf b (ps.map fun q => (b, q)) = ps := by
  induction ps with
  | nil => rfl
  | cons p r ih => unfold wayOf at *; simp only [List.map_cons, List.filter_cons, beq_self_eq_true, if_true, ih]
theorem wayOf_map_not (b : Bool) (ps : List Post) : wayOf b (ps.map fun q => (!b, q)) = [] := by
  have e : ((!b) == b) = false := by cases b <;> rfl
  induction ps with
  | nil => rfl
  | cons p r ih => unfold wayOf at *; simp only [List.map_cons, List.filter_cons, e, Bool.false_eq_true, if_false, ih]
theorem wayOf_map_not' (b : Bool) (ps : List Post) : wayOf (!b) (ps.map fun q => (b, q)) = [] := by
  have := wayOf_map_not (!b) ps
  rwa [Bool.not_not] at this
theorem postsL_le (c : Ch) : (postsL c).length ≤ 8 := by
  unfold postsL
  split
  · rw [List.length_append]
    split <;> split <;> simp
  · rw [textPs_length]
    unfold postK
    split <;> omega
section
variable {S : Bool → List MsgR} {g : St} {old : List Old}
/-- what lies on the way is good -/
theorem GI0.good (h : GI0 S g old) {x : Bool × Post} (hx : x ∈ g.gn) : Ses.Good (g.side S !x.1) old x.2 := (h.inv x.1).d2.way x.2 (wayOf_mem.2 hx)
theorem GI0.le (h : GI0 S g old) {x : Bool × Post} (hx : x ∈ g.gn) : (g.c x.1).yours ≤ x.2.mine := by
  rw [h.way x hx]
  exact (h.inv x.1).d2.yo
/-- the net may be cut -/
theorem GI0.cutNet (h : GI0 S g old) (l : List (Bool × Post)) (hl : ∀ x ∈ l, x ∈ g.gn) : GI0 S (g.net l) old := by
  have hs : ∀ k, ∀ x ∈ wayOf k l, x ∈ wayOf k g.gn := fun k x hx => wayOf_mem.2 (hl _ (wayOf_mem.1 hx))
  refine ⟨fun k => ?_, fun k => ?_, h.olds, h.mine, h.yours, fun x hx => h.way x (hl x hx), h.few, h.ok, h.okH⟩
  · have h1 := inv_way (h.inv k) (wayOf k l) (fun x hx => hs k x hx)
    exact (inv_way h1.swap (wayOf (!k) l) (fun x hx => hs (!k) x hx)).swap
  · have h1 := (h.net k).ways (wayOf k l) (fun x hx => (h.net k).a.way x (hs k x hx))
    exact (h1.swap.ways (wayOf (!k) l) (fun x hx => h1.b.way x (hs (!k) x hx))).swap
theorem Inv_fix {d o : Side} {old : List Old} (h : Inv 21 8 d o old) (h1 : d.said.length ≤ 20) (h2 : o.said.length ≤ 20) (h3 : ∀ e ∈ old, e.said = []) : Inv 20 8 d o old :=
  Inv_tight h (by omega) h1 h2 (fun e he => by rw [h3 e he]; simp)
theorem GI0.post (h : GI0 S g old) (k : Bool) : GI0 S (g.post k) old := by
  have h1 := inv_posts (h.inv k) (by omega)
  have hd : (g.post k).side S k = ⟨pst (g.c k), (S k).map mT, (g.h k).map mT, wayOf k g.gn⟩ := by
    unfold St.side St.post
    simp only [upd_same, wayOf_append, wayOf_map_not, List.append_nil]
  have ho : (g.post k).side S (!k) = ⟨g.c !k, (S !k).map mT, (g.h !k).map mT, wayOf (!k) g.gn ++ postsL (g.c k)⟩ := by
    unfold St.side St.post
    simp only [upd_not, wayOf_append, wayOf_map_same]
  have hI : Inv 20 8 ((g.post k).side S k) ((g.post k).side S !k) old := by
    rw [hd, ho]
    exact Inv_fix h1 (by simp [St.side]; have := h.few k; omega) (by simp [St.side]; have := h.few !k; omega) h.olds
  have hN : Ses.Net2 ((g.post k).side S k) ((g.post k).side S !k) := by
    rw [hd, ho]
    exact Ses.Net2.posts (h.inv k) (h.net k)
  have hm : ∀ j, ((g.post k).c j).mine = (g.c j).mine := both_of _ k (by simp only [St.post, upd_same, pst]) (by simp only [St.post, upd_not])
  have hy : ∀ j, ((g.post k).c j).yours = (g.c j).yours := both_of _ k (by simp only [St.post, upd_same, pst]) (by simp only [St.post, upd_not])
  refine ⟨both_of _ k hI (by rw [Bool.not_not]; exact hI.swap), both_of _ k hN (by rw [Bool.not_not]; exact hN.swap), h.olds, fun j => by rw [hm]; exact h.mine j, fun j => by rw [hm, hy]; exact h.yours j, fun x hx => ?_, h.few, h.ok, h.okH⟩
  rw [hm]
  rcases List.mem_append.1 hx with hx | hx
  · exact h.way x hx
  · obtain ⟨q, hq, rfl⟩ := List.mem_map.1 hx
    rw [Bool.not_not]
    exact posts_mine hq
theorem mT_inj_dec {m : MsgR} (h : okM m = true) : (decM (mT m)).1 = m ∧ (decM (mT m)).2 = 0 := by
  have := decM_back m h
  exact ⟨by rw [mT, this], by rw [mT, this]⟩
/-- what is heard is what somebody said -/
theorem GI0.text (h : GI0 S g old) {x : Bool × Post} (hx : x ∈ g.gn) (hs : 0 < x.2.seq) : ∃ m ∈ S !x.1, x.2.text = mT m := by
  obtain ⟨i, h1, h2⟩ := (h.good hx).text hs
  unfold SAID at h2
  split at h2
  · have h3 := List.mem_of_getElem? h2
    obtain ⟨m, hm, he⟩ := List.mem_map.1 h3
    exact ⟨m, hm, he.symm⟩
  · unfold oldSaid at h2
    cases hf : old.find? (Old.is x.2.mine x.2.yours) with
    | none => rw [hf] at h2; simp at h2
    | some e =>
      rw [hf] at h2
      have := h.olds e (List.mem_of_find?_eq_some hf)
      simp [this] at h2
theorem GI0.heard (h : GI0 S g old) {x : Bool × Post} (hx : x ∈ g.gn) (hs : (hear (g.c x.1) x.2).1.is = true) : ∃ m, okM m = true ∧ (hear (g.c x.1) x.2).1.text = mT m ∧ hmsg (g.c x.1) x.2 = [m] := by
  obtain ⟨-, -, -, -, -, h6⟩ := hear_facts (g.c x.1) x.2 (h.good hx).ok (h.le hx)
  rcases h6 with ⟨-, h1, -, -, h2, -⟩ | ⟨h1, -⟩
  · obtain ⟨m, hm, he⟩ := h.text hx h1
    refine ⟨m, h.ok _ m hm, by rw [h2, he], ?_⟩
    unfold hmsg
    rw [if_pos hs, h2, he, (mT_inj_dec (h.ok _ m hm)).1]
  · rw [h1] at hs; cases hs
theorem GI0.come (h : GI0 S g old) {x : Bool × Post} (hx : x ∈ g.gn) : ∃ old', GI0 S (g.come x) old' := by
  have hg := h.good hx
  have hle := h.le hx
  have hk := hg.ok
  obtain ⟨e0, ea, em, ey, -, eis⟩ := hear_facts (g.c x.1) x.2 hk hle
  have h1 := (inv_comes (h.inv x.1) x.2 hg hle).1
  have h2 := Ses.Net2.comes (h.inv x.1) (h.net x.1) x.2 hk ((h.net x.1).a.way x.2 (wayOf_mem.2 hx)) hle
  have hanew : (hear (g.c x.1) x.2).1.anew = true → S x.1 = [] ∧ g.h x.1 = [] := fun ha => by
    rw [ea, decide_eq_true_eq] at ha
    rcases h.yours x.1 with hy | ⟨h3, h4, -⟩
    · have := h.way x hx
      omega
    · exact ⟨h3, h4⟩
  have htx : (hmsg (g.c x.1) x.2).map mT = if (hear (g.c x.1) x.2).1.is then [(hear (g.c x.1) x.2).1.text] else [] := by
    by_cases hs : (hear (g.c x.1) x.2).1.is = true
    · obtain ⟨m, -, h5, h6⟩ := h.heard hx hs
      rw [h6, if_pos hs, h5]
      rfl
    · rw [if_neg hs]
      unfold hmsg
      rw [if_neg hs]
      rfl
  have hd : (g.come x).side S x.1 = comesSide (g.side S x.1) x.2 := by
    unfold St.side St.come comesSide
    simp only [upd_same, List.map_append, htx]
    by_cases ha : (hear (g.c x.1) x.2).1.anew = true
    · obtain ⟨h3, h4⟩ := hanew ha
      rw [if_pos ha, if_pos ha, h3, h4]
      rfl
    · rw [if_neg ha, if_neg ha]
  have ho : (g.come x).side S (!x.1) = g.side S !x.1 := by
    unfold St.side St.come
    simp only [upd_not]
  have holds : ∀ e ∈ comesOld (g.side S x.1) old x.2, e.said = [] := fun e he => by
    unfold comesOld at he
    by_cases ha : (hear (g.c x.1) x.2).1.anew = true
    · obtain ⟨h3, -⟩ := hanew ha
      rw [show (hear (g.side S x.1).c x.2).1.anew = true from ha, if_pos rfl] at he
      rcases List.mem_append.1 he with he | he
      · exact h.olds e he
      · rw [List.mem_singleton.1 he]
        simp [St.side, h3]
    · have ha' : (hear (g.c x.1) x.2).1.anew = false := by simpa using ha
      rw [show (hear (g.side S x.1).c x.2).1.anew = false from ha'] at he
      exact h.olds e (by simpa using he)
  refine ⟨comesOld (g.side S x.1) old x.2, ?_⟩
  have hI : Inv 20 8 ((g.come x).side S x.1) ((g.come x).side S !x.1) (comesOld (g.side S x.1) old x.2) := by
    refine Inv_fix ?_ (by simp [St.side]; have := h.few x.1; omega) (by simp [St.side]; have := h.few !x.1; omega) holds
    rw [hd, ho]
    exact h1
  have hN : Ses.Net2 ((g.come x).side S x.1) ((g.come x).side S !x.1) := by rw [hd, ho]; exact h2
  have hm : ∀ j, ((g.come x).c j).mine = (g.c j).mine := both_of _ x.1 (by simp only [St.come, upd_same, em]) (by simp only [St.come, upd_not])
  have hy : ((g.come x).c x.1).yours = x.2.mine := by simp only [St.come, upd_same, ey]
  refine ⟨both_of _ x.1 hI (by rw [Bool.not_not]; exact hI.swap), both_of _ x.1 hN (by rw [Bool.not_not]; exact hN.swap), holds, fun j => by rw [hm]; exact h.mine j, both_of _ x.1 ?_ ?_, fun y hy => by rw [hm]; exact h.way y hy, h.few, h.ok, both_of _ x.1 ?_ ?_⟩
  · rw [hy, hm]
    exact .inl (h.way x hx)
  · rw [hm]
    simp only [St.come, upd_not]
    exact h.yours !x.1
  · simp only [St.come, upd_same]
    intro m hm
    rcases List.mem_append.1 hm with hm | hm
    · exact h.okH _ m hm
    · by_cases hs : (hear (g.c x.1) x.2).1.is = true
      · obtain ⟨m', h5, -, h6⟩ := h.heard hx hs
        rw [h6] at hm
        rw [List.mem_singleton.1 hm]
        exact h5
      · unfold hmsg at hm
        rw [if_neg hs] at hm
        cases hm
  · simp only [St.come, upd_not]
    exact h.okH !x.1
def sayS (S : Bool → List MsgR) (g : St) (k : Bool) (m : MsgR) : Bool → List MsgR := if sayE (g.c k) [mT m] = 0 then upd S k (S k ++ [m]) else S
theorem GI0.say (h : GI0 S g old) (k : Bool) (m : MsgR) (hm : okM m = true) (hl : (S k).length ≤ 11) (hy : (g.c k).yours = (g.c !k).mine) : GI0 (sayS S g k m) (g.say k (mT m)) old := by
  have h1 := inv_say (h.inv k) (mT m)
  have h2 := (h.net k).say (mT m)
  have hS : ∀ j, (sayS S g k m j).length ≤ 12 := fun j => by
    unfold sayS
    split
    · unfold upd
      split
      · rw [List.length_append]; simp; omega
      · exact h.few j
    · exact h.few j
  have hSk : (sayS S g k m k).map mT = if sayE (g.c k) [mT m] = 0 then (S k).map mT ++ [mT m] else (S k).map mT := by
    unfold sayS
    split
    · rw [upd_same, List.map_append]; rfl
    · rfl
  have hSn : sayS S g k m (!k) = S !k := by
    unfold sayS
    split
    · rw [upd_not]
    · rfl
  have hd : (g.say k (mT m)).side (sayS S g k m) k = saySide (g.side S k) (mT m) := by
    unfold St.side saySide St.say
    simp only [upd_same, hSk]
  have ho : (g.say k (mT m)).side (sayS S g k m) (!k) = g.side S !k := by
    unfold St.side St.say
    simp only [upd_not, hSn]
  have hI : Inv 20 8 ((g.say k (mT m)).side (sayS S g k m) k) ((g.say k (mT m)).side (sayS S g k m) !k) old := by
    refine Inv_fix ?_ (by simp [St.side]; have := hS k; omega) (by simp [St.side]; have := hS !k; omega) h.olds
    rw [hd, ho]
    exact h1
  have hN : Ses.Net2 ((g.say k (mT m)).side (sayS S g k m) k) ((g.say k (mT m)).side (sayS S g k m) !k) := by rw [hd, ho]; exact h2
  have e1 : (sayC (g.c k) [mT m]).mine = (g.c k).mine ∧ (sayC (g.c k) [mT m]).yours = (g.c k).yours := by
    unfold sayC
    split <;> exact ⟨rfl, rfl⟩
  have hm' : ∀ j, ((g.say k (mT m)).c j).mine = (g.c j).mine := both_of _ k (by simp only [St.say, upd_same, e1.1]) (by simp only [St.say, upd_not])
  refine ⟨both_of _ k hI (by rw [Bool.not_not]; exact hI.swap), both_of _ k hN (by rw [Bool.not_not]; exact hN.swap), h.olds, fun j => by rw [hm']; exact h.mine j, both_of _ k ?_ ?_, fun x hx => by rw [hm']; exact h.way x hx, hS, both_of _ k ?_ ?_, h.okH⟩
  · rw [hm']
    exact .inl (by simp only [St.say, upd_same, e1.2]; exact hy)
  · rw [hm', hSn]
    simp only [St.say, upd_not]
    exact h.yours !k
  · intro m' h5
    unfold sayS at h5
    split at h5
    · rw [upd_same] at h5
      rcases List.mem_append.1 h5 with h5 | h5
      · exact h.ok k m' h5
      · rw [List.mem_singleton.1 h5]; exact hm
    · exact h.ok k m' h5
  · rw [hSn]
    exact h.ok !k
end
end Go.Proofs.Ythmfmpkkbgapoaa
-- MailQ
/- top: rounds in which all packets come, what is heard behind them, and what else comes to pass: plain laws. -/
set_option linter.unusedSimpArgs false
set_option linter.unusedVariables false
namespace Go.Proofs.Ythmfmpkkbgapoaa
open Go.RowKit Octs Ses
section
variable {S : Bool → List MsgR} {g : St} {old : List Old}
structure Bnd (c : Ch) : Prop where
  f : 1 ≤ c.first ∧ c.first ≤ 21
  l : 0 ≤ c.last ∧ c.last ≤ 20
  w : c.wait.length ≤ 12
theorem GI0.bnd (h : GI0 S g old) (k : Bool) : Bnd (g.c k) := by
  obtain ⟨m1, m2, y0, f1, ⟨a, ha1, ha2⟩, len, small, lastT, uniq⟩ := (h.inv k).d1
  have hl := (h.inv k).d2.last
  have hf := h.few k
  have e : ((g.side S k).said).length = (S k).length := by simp [St.side]
  have e2 := congrArg List.length ha1
  rw [List.length_append, e] at e2
  show Bnd (g.side S k).c
  exact ⟨by omega, by omega, by omega⟩
theorem GI.bnd (h : GI S g) (k : Bool) : Bnd (g.c k) := by
  obtain ⟨old, h⟩ := h
  exact h.bnd k
theorem GI.posts (h : GI S g) (k : Bool) : ∀ q ∈ postsL (g.c k), okPost q = true := by
  obtain ⟨old, h⟩ := h
  exact fun q hq => (posts_good (h.inv k) (by omega) q hq).ok
theorem GI.post (h : GI S g) (k : Bool) : GI S (g.post k) := by
  obtain ⟨old, h⟩ := h
  exact ⟨old, h.post k⟩
theorem GI.cut (h : GI S g) (l : List (Bool × Post)) (hl : ∀ x ∈ l, x ∈ g.gn) : GI S (g.net l) := by
  obtain ⟨old, h⟩ := h
  exact ⟨old, h.cutNet l hl⟩
theorem GI.come (h : GI S g) {x : Bool × Post} (hx : x ∈ g.gn) (l : List (Bool × Post)) (hl : ∀ x ∈ l, x ∈ g.gn) : GI S ((g.come x).net l) := by
  obtain ⟨old, h⟩ := h
  obtain ⟨old', h'⟩ := h.come hx
  exact ⟨old', h'.cutNet l hl⟩
/-- what a packet's coming wants -/
structure CmOk (c : Ch) (q : Post) : Prop where
  ok : okPost q = true
  le : c.yours ≤ q.mine
  b : Bnd c
  is : (hear c q).1.is = true → ∃ m, okM m = true ∧ (hear c q).1.text = mT m ∧ hmsg c q = [m]
theorem GI.cm (h : GI S g) {x : Bool × Post} (hx : x ∈ g.gn) : CmOk (g.c x.1) x.2 := by
  obtain ⟨old, h⟩ := h
  exact ⟨(h.good hx).ok, h.le hx, h.bnd x.1, h.heard hx⟩
theorem GI0.ok2 (h : GI0 S g old) : Ok2 (g.c false) (g.c true) := by
  have one : ∀ k, Ok1 (g.c k) (g.c !k) := fun k => by
    have hb := h.bnd k
    exact ⟨(h.inv k).d1.m1, (h.inv k).d1.y0, (h.inv k).d2.yo, (h.inv k).d1.f1, hb.l.1, by have := hb.w; omega, (h.net k).a.met, (h.net k).a.sound, fun q hq => (posts_good (h.inv k) (by omega) q hq).ok⟩
  exact ⟨one false, one true, (h.inv false).ne⟩
theorem GI.ok2 (h : GI S g) : Ok2 (g.c false) (g.c true) := by
  obtain ⟨old, h⟩ := h
  exact h.ok2
theorem pst_nil {c : Ch} (h : postsL c = []) : pst c = c := by
  have ho : c.owes = false := by
    unfold postsL at h
    split at h
    · cases ho : c.owes with
      | false => rfl
      | true => rw [ho] at h; simp at h
    · rename_i h1
      have := congrArg List.length h
      rw [textPs_length] at this
      exact absurd this h1
  obtain ⟨m, y, f, w, la, me, ow⟩ := c
  simp only at ho
  subst ho
  rfl
def RS (r : Nat) (a b : Ch) : Prop := ∃ j, r = j + 1 ∧ ((j ≤ 34 ∧ Ph j a b) ∨ (j = 35 ∧ Q a b))
structure JR (S : Bool → List MsgR) (r : Nat) (g : St) : Prop where
  gi : GI S g
  len : g.gn.length ≤ 3000
  rd : r ≠ 0 → g.gn = [] ∧ RS r (g.c false) (g.c true)
structure LR (S : Bool → List MsgR) (r : Nat) (g : St) : Prop where
  gi : GI S g
  len : g.gn.length ≤ 3020
  le : r ≤ 35
  rd : r ≠ 0 → ∃ a b, Ok2 a b ∧ RS r a b ∧ Rnd a b (hearL (g.c false) (wayOf false g.gn)) (hearL (g.c true) (wayOf true g.gn))
structure Done (S : Bool → List MsgR) (g : St) : Prop where
  gi : GI S g
  gn : g.gn = []
  q : Q (g.c false) (g.c true)
theorem JR.le {r : Nat} (h : JR S r g) : r ≤ 36 := by
  by_cases h0 : r = 0
  · omega
  · obtain ⟨-, j, rfl, h2⟩ := h.rd h0
    omega
def St.both (g : St) : St := (g.post false).post true
theorem both_gn (g : St) : g.both.gn = (g.gn ++ (postsL (g.c false)).map fun q => (true, q)) ++ (postsL (g.c true)).map fun q => (false, q) := rfl
theorem both_c0 (g : St) : g.both.c false = pst (g.c false) := rfl
theorem both_c1 (g : St) : g.both.c true = pst (g.c true) := rfl
theorem JR.nil {r : Nat} (h : JR S r g) (h0 : g.both.gn = []) : Done S g.both := by
  rw [both_gn, List.append_eq_nil_iff, List.append_eq_nil_iff, List.map_eq_nil_iff, List.map_eq_nil_iff] at h0
  obtain ⟨⟨h1, h2⟩, h3⟩ := h0
  refine ⟨(h.gi.post false).post true, by rw [both_gn, h1, h2, h3]; rfl, ?_⟩
  rw [both_c0, both_c1, pst_nil h2, pst_nil h3]
  exact ⟨h2, h3⟩
theorem JR.more {r : Nat} (h : JR S r g) (h0 : g.both.gn ≠ []) : LR S r g.both := by
  have l1 := postsL_le (g.c false)
  have l2 := postsL_le (g.c true)
  refine ⟨(h.gi.post false).post true, ?_, ?_, fun hr => ?_⟩
  · rw [both_gn]
    simp only [List.length_append, List.length_map]
    have := h.len
    omega
  · by_cases hr : r = 0
    · omega
    · obtain ⟨h1, j, rfl, h2⟩ := h.rd hr
      rcases h2 with h2 | ⟨h2, h3, h4⟩
      · omega
      · exfalso
        apply h0
        rw [both_gn, h1, h3, h4]
        rfl
  · obtain ⟨h1, h2⟩ := h.rd hr
    refine ⟨g.c false, g.c true, h.gi.ok2, h2, ?_, ?_⟩
    · rw [both_c0, both_gn, h1, List.nil_append, wayOf_append, wayOf_map_same, show wayOf false ((postsL (g.c false)).map fun q => (true, q)) = [] from wayOf_map_not false _, List.nil_append]
    · rw [both_c1, both_gn, h1, List.nil_append, wayOf_append, wayOf_map_same, show wayOf true ((postsL (g.c true)).map fun q => (false, q)) = [] from wayOf_map_not true _, List.append_nil]
theorem wayOf_cons_same (x : Bool × Post) (l : List (Bool × Post)) : wayOf x.1 (x :: l) = x.2 :: wayOf x.1 l := by
  unfold wayOf
  simp
theorem wayOf_cons_not (x : Bool × Post) (l : List (Bool × Post)) : wayOf (!x.1) (x :: l) = wayOf (!x.1) l := by
  unfold wayOf
  rw [List.filter_cons, if_neg]
  cases x.1 <;> simp
theorem LR.come {r : Nat} {x : Bool × Post} {l : List (Bool × Post)} (h : LR S r g) (hg : g.gn = x :: l) : LR S r ((g.come x).net l) := by
  have hx : x ∈ g.gn := by rw [hg]; exact List.mem_cons_self
  refine ⟨h.gi.come hx l (fun y hy => by rw [hg]; exact List.mem_cons_of_mem _ hy), by have := h.len; rw [hg] at this; exact Nat.le_trans (Nat.le_succ _) this, h.le, fun hr => ?_⟩
  obtain ⟨a, b, h1, h2, h3⟩ := h.rd hr
  have key : ∀ k, hearL (((g.come x).net l).c k) (wayOf k ((g.come x).net l).gn) = hearL (g.c k) (wayOf k g.gn) := by
    refine both_of _ x.1 ?_ ?_
    · show hearL ((g.come x).c x.1) (wayOf x.1 l) = _
      rw [hg, wayOf_cons_same, hearL_cons]
      simp only [St.come, upd_same]
    · show hearL ((g.come x).c !x.1) (wayOf (!x.1) l) = _
      rw [hg, wayOf_cons_not]
      simp only [St.come, upd_not]
  rw [key, key]
  exact ⟨a, b, h1, h2, h3⟩
theorem LR.fin {r : Nat} (h : LR S r g) (hg : g.gn = []) : JR S (r + 1) g := by
  refine ⟨h.gi, by rw [hg]; simp, fun _ => ⟨hg, ?_⟩⟩
  by_cases hr : r = 0
  · subst hr
    exact ⟨0, rfl, .inl ⟨by omega, trivial⟩⟩
  · obtain ⟨a, b, h1, ⟨j, rfl, h2⟩, h3⟩ := h.rd hr
    rw [hg] at h3
    have h3 : Rnd a b (g.c false) (g.c true) := h3
    have h4 := h.gi.ok2
    refine ⟨j + 1, rfl, ?_⟩
    rcases h2 with ⟨h5, h6⟩ | ⟨h5, -⟩
    · by_cases hj : j = 34
      · subst hj
        exact .inr ⟨rfl, Ph.quiet h3 h1 h4 h6⟩
      · exact .inl ⟨by omega, Ph.step h3 h1 h4 (by omega) h6⟩
    · have := h.le
      omega
theorem list_inj {hs ss : List MsgR} (h1 : ∀ m ∈ hs, okM m = true) (h2 : ∀ m ∈ ss, okM m = true) (h : hs.map mT = ss.map mT) : hs = ss := by
  have key : ∀ l : List MsgR, (∀ m ∈ l, okM m = true) → (l.map mT).map (fun t => (decM t).1) = l := fun l hl => by
    rw [List.map_map]
    conv => rhs; rw [← List.map_id l]
    exact List.map_congr_left fun m hm => (mT_inj_dec (hl m hm)).1
  rw [← key hs h1, ← key ss h2, h]
/-- behind the rest each has heard just what the other one said -/
theorem Done.heard (h : Done S g) (k : Bool) : g.h k = S !k := by
  obtain ⟨⟨old, hI⟩, hg, hq⟩ := h
  obtain ⟨⟨k1, k2⟩, w1, w2⟩ := Q.done hq hI.ok2
  have hy : ∀ k, (g.c k).yours = (g.c !k).mine := fun k => by cases k <;> assumption
  have hw : ∀ k, (g.c k).wait = [] := fun k => by cases k <;> assumption
  have hI1 := hI.inv k
  have hN := hI.net k
  have hp := hI1.d2.pre
  have hl := hI1.d2.last
  obtain ⟨a, ha1, ha2⟩ := hI1.o1.wait
  have hs := hN.b.sound
  unfold SAID at hp
  rw [if_pos ⟨(hy k).symm, by have := hy !k; rw [Bool.not_not] at this; exact this⟩] at hp
  have hs := hs (by have := hy !k; rw [Bool.not_not] at this; exact this) (hy k)
  have e1 : (g.side S !k).c.wait = [] := hw !k
  rw [e1, List.append_nil] at ha1
  have e2 := hp.length_le
  have e3 := hp.eq_of_length (by
    rw [← ha1] at ha2
    omega)
  exact list_inj (hI.okH k) (hI.ok !k) e3
theorem Done.yours (h : Done S g) (k : Bool) : (g.c k).yours = (g.c !k).mine := by
  obtain ⟨⟨old, hI⟩, hg, hq⟩ := h
  obtain ⟨⟨k1, k2⟩, w1, w2⟩ := Q.done hq hI.ok2
  cases k <;> assumption
theorem GI.mine (h : GI S g) (k : Bool) : (g.c k).mine = if k then 8 else 3 := by
  obtain ⟨old, h⟩ := h
  exact h.mine k
theorem GI.few (h : GI S g) (k : Bool) : (S k).length ≤ 12 := by
  obtain ⟨old, h⟩ := h
  exact h.few k
theorem GI.okH (h : GI S g) (k : Bool) : ∀ m ∈ g.h k, okM m = true := by
  obtain ⟨old, h⟩ := h
  exact h.okH k
/-- no more is heard than was said -/
theorem GI.hfew (h : GI S g) (k : Bool) : (g.h k).length ≤ 20 := by
  obtain ⟨old, h⟩ := h
  have h1 := (h.inv k).d2.last
  have h2 := (h.bnd k).l.2
  have e : (g.side S k).heard.length = (g.h k).length := by simp [St.side]
  have e2 : (g.side S k).c.last = (g.c k).last := rfl
  omega
end
/-- the state at the start -/
def st0 : St := ⟨fun k => ⟨if k then 8 else 3, 0, 1, [], 0, false, false⟩, fun _ => [], []⟩
theorem st0_gi : GI (fun _ => []) st0 := by
  refine ⟨[], fun k => ?_, fun k => ?_, (fun e he => by cases he), fun k => rfl, fun k => .inr ⟨rfl, rfl, rfl⟩, (fun x hx => by cases hx), (fun k => by simp), (fun k m hm => by cases hm), (fun k m hm => by cases hm)⟩
  · have s : ∀ k, Self 20 8 (st0.side (fun _ => []) k) [] := fun k => ⟨by cases k <;> decide, by cases k <;> decide, by simp [St.side, st0], by simp [St.side, st0], ⟨[], rfl, by simp [St.side, st0]⟩, by simp [St.side], (fun t ht => by cases ht), by simp [St.side, st0], (fun e he => by cases he)⟩
    have t : ∀ k, Hears (st0.side (fun _ => []) k) (st0.side (fun _ => []) !k) [] := fun k => ⟨rfl, by cases k <;> decide, List.nil_prefix, fun x hx => by cases hx⟩
    exact ⟨by decide, s k, s !k, t k, by have := t !k; rwa [Bool.not_not] at this, by cases k <;> decide, fun e he => by cases he⟩
  · have t : ∀ k, Ses.Net (st0.side (fun _ => []) k) (st0.side (fun _ => []) !k) := fun k => ⟨(fun x hx => by cases hx), (fun h => by simp [St.side, st0] at h), fun _ => rfl, fun _ _ => by simp [St.side, st0]⟩
    exact ⟨t k, by have := t !k; rwa [Bool.not_not] at this⟩
theorem st0_jr : JR (fun _ => []) 0 st0 := ⟨st0_gi, by simp [st0], fun h => absurd rfl h⟩
/-- while texts are said -/
structure SayI (S : Bool → List MsgR) (n0 n1 : Nat) (g : St) : Prop where
  gi : GI S g
  gn : g.gn = []
  y : ∀ k, (g.c k).yours = (g.c !k).mine
  h : ∀ k, g.h k = []
  l0 : (S false).length ≤ n0
  l1 : (S true).length ≤ n1
theorem Done.sayI {g : St} (h : Done (fun _ => []) g) : SayI (fun _ => []) 0 0 g := ⟨h.gi, h.gn, h.yours, fun k => h.heard k, Nat.le_refl _, Nat.le_refl _⟩
theorem sayS_le (S : Bool → List MsgR) (g : St) (k : Bool) (m : MsgR) (j : Bool) : (sayS S g k m j).length ≤ (S j).length + (if j = k then 1 else 0) := by
  unfold sayS
  split
  · unfold upd
    split
    · rename_i h; subst h; simp
    · omega
  · omega
theorem SayI.say {S : Bool → List MsgR} {n0 n1 : Nat} {g : St} (h : SayI S n0 n1 g) (k : Bool) (m : MsgR) (hm : okM m = true) (h11 : (if k then n1 else n0) ≤ 11) : SayI (sayS S g k m) (if k then n0 else n0 + 1) (if k then n1 + 1 else n1) (g.say k (mT m)) := by
  obtain ⟨⟨old, h1⟩, h2, h3, h4, h5, h6⟩ := h
  have e1 : (sayC (g.c k) [mT m]).mine = (g.c k).mine ∧ (sayC (g.c k) [mT m]).yours = (g.c k).yours := by
    unfold sayC
    split <;> exact ⟨rfl, rfl⟩
  refine ⟨⟨old, h1.say k m hm (by cases k <;> simp at h11 <;> omega) (h3 k)⟩, h2, both_of _ k ?_ ?_, h4, ?_, ?_⟩
  · simp only [St.say, upd_same, upd_not, e1.2]
    exact h3 k
  · simp only [St.say, upd_same, upd_not, Bool.not_not, e1.1]
    have := h3 !k
    rwa [Bool.not_not] at this
  · have := sayS_le S g k m false
    cases k <;> simp at this ⊢ <;> omega
  · have := sayS_le S g k m true
    cases k <;> simp at this ⊢ <;> omega
theorem SayI.mono {S : Bool → List MsgR} {n0 n1 m0 m1 : Nat} {g : St} (h : SayI S n0 n1 g) (h0 : n0 ≤ m0) (h1 : n1 ≤ m1) : SayI S m0 m1 g := ⟨h.gi, h.gn, h.y, h.h, Nat.le_trans h.l0 h0, Nat.le_trans h.l1 h1⟩
end Go.Proofs.Ythmfmpkkbgapoaa
