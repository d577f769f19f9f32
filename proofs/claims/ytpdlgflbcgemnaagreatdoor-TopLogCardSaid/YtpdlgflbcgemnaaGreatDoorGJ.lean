/- Plain laws and walks: Map, Disk, Std, Disk2, Files, Crash. -/
import Derived.Test.YtpdlgflbcgemnaaGreatDoorGa
import Derived.Maps.OwnSet
import Derived.Test.YtpdlgflbcgemnaaGreatDoorGd
import Derived.Deep.RegionHeld3
import Derived.Deep.RegionLaw
import Derived.Deep.DeepCutAuto
import Derived.Maps.Keyed
import Derived.Carry
import Derived.Test.YtpdlgflbcgemnaaGreatDoorLen
import Derived.Test.YtpdlgflbcgemnaaGreatDoorCodDp
import Derived.Laws.IdiomStrings
import Derived.Laws.IdiomRangeMap
import Derived.Deep.CutBlock
-- Map
/- A map that the call has made, as an assertion: what it holds at each key, and how many. Plain laws. -/
set_option linter.unusedSimpArgs false
set_option linter.unusedVariables false
set_option maxRecDepth 100000
namespace Go
open Go.RowKit Go.ChangeMaps Go.MapKept
open Go.Maps (Keyed)
section
variable {α β : Type} [DecidableEq α]
def mget : List (α × β) → α → Option β
  | [], _ => none
  | p :: l, a => if p.1 = a then some p.2 else mget l a
theorem mget_none {L : List (α × β)} {a : α} (h : ∀ p ∈ L, p.1 ≠ a) : mget L a = none := by
  induction L with
  | nil => rfl
  | cons p l ih => rw [mget, if_neg (h p List.mem_cons_self)]; exact ih fun q hq => h q (List.mem_cons_of_mem _ hq)
theorem mget_push (L : List (α × β)) (a : α) (b : β) (c : α) (h : ∀ p ∈ L, p.1 ≠ a) : mget (L ++ [(a, b)]) c = if c = a then some b else mget L c := by
  induction L with
  | nil =>
    by_cases e : c = a
    · subst e; simp [mget]
    · rw [if_neg e]
      have e' : ¬ a = c := fun k => e k.symm
      simp [mget, e']
  | cons p l ih =>
    rw [List.cons_append, mget, mget, ih fun q hq => h q (List.mem_cons_of_mem _ hq)]
    by_cases e : p.1 = c
    · rw [if_pos e, if_pos e, if_neg (fun k => h p List.mem_cons_self (e.trans k))]
    · rw [if_neg e, if_neg e]
theorem mget_set {L : List (α × β)} {j : Nat} {p : α × β} (hd : (L.map (·.1)).Nodup) (hj : L[j]? = some p) (b : β) (c : α) : mget (L.set j (p.1, b)) c = if c = p.1 then some b else mget L c := by
  induction L generalizing j with
  | nil => simp at hj
  | cons q l ih =>
    rw [List.map_cons, List.nodup_cons] at hd
    cases j with
    | zero =>
      simp at hj
      subst hj
      rw [List.set_cons_zero, mget, mget]
      by_cases e : q.1 = c
      · rw [if_pos e, if_pos e.symm]
      · rw [if_neg e, if_neg (fun k => e k.symm), if_neg e]
    | succ j =>
      have hj' : l[j]? = some p := by simpa using hj
      rw [List.set_cons_succ, mget, mget, ih hd.2 hj']
      by_cases e : q.1 = c
      · have : c ≠ p.1 := fun k => hd.1 (List.mem_map.2 ⟨p, List.mem_of_getElem? hj', by rw [← k, e]⟩)
        rw [if_pos e, if_pos e, if_neg this]
      · rw [if_neg e, if_neg e]
theorem mget_erase {L : List (α × β)} {j : Nat} {p : α × β} (hd : (L.map (·.1)).Nodup) (hj : L[j]? = some p) (c : α) : mget (L.eraseIdx j) c = if c = p.1 then none else mget L c := by
  induction L generalizing j with
  | nil => simp at hj
  | cons q l ih =>
    rw [List.map_cons, List.nodup_cons] at hd
    cases j with
    | zero =>
      simp at hj
      subst hj
      rw [List.eraseIdx_cons_zero, mget]
      by_cases e : c = q.1
      · rw [if_pos e]
        exact mget_none fun r hr k => hd.1 (List.mem_map.2 ⟨r, hr, k.trans e⟩)
      · rw [if_neg e, if_neg (fun k => e k.symm)]
    | succ j =>
      have hj' : l[j]? = some p := by simpa using hj
      rw [List.eraseIdx_cons_succ, mget, mget, ih hd.2 hj']
      by_cases e : q.1 = c
      · have : c ≠ p.1 := fun k => hd.1 (List.mem_map.2 ⟨p, List.mem_of_getElem? hj', by rw [← k, e]⟩)
        rw [if_pos e, if_pos e, if_neg this]
      · rw [if_neg e, if_neg e]
theorem mget_at {L : List (α × β)} {j : Nat} {p : α × β} (hd : (L.map (·.1)).Nodup) (hj : L[j]? = some p) : mget L p.1 = some p.2 := by
  induction L generalizing j with
  | nil => simp at hj
  | cons q l ih =>
    rw [List.map_cons, List.nodup_cons] at hd
    rw [mget]
    cases j with
    | zero => simp at hj; subst hj; rw [if_pos rfl]
    | succ j =>
      have hj' : l[j]? = some p := by simpa using hj
      rw [if_neg (fun k => hd.1 (List.mem_map.2 ⟨p, List.mem_of_getElem? hj', k.symm⟩))]
      exact ih hd.2 hj'
end
section
variable {α β : Type} [DecidableEq α]
/-- how a map's keys and elements lie -/
structure MapTy (P : Program) (k e t : TypeId) (ok : α → Prop) (enc : α → Value) (encv : β → Value) (z : Value) : Prop where
  K : Keyed P k
  ht : P.underlying t = some (.map k e)
  hz : ∀ w, (zeroValue e).run P w = .ok z w
  hkey : ∀ a, ok a → ∃ l, keyOf P k (enc a) = some l
  inj : ∀ a b, enc a = enc b → a = b
/-- the order in which the entries came -/
def BornOk (es : Array MapEntry) (clock : Nat) : Prop := (∀ x ∈ es.toList, x.born < clock) ∧ (es.toList.map (·.born)).Nodup
/-- block M is a map of n entries: F at each key -/
def MapAt (enc : α → Value) (encv : β → Value) (ok : α → Prop) (w : World) (M n : Nat) (F : α → Option β) : Prop :=
  ∃ es clock, ∃ L : List (α × β), w.heap[M]? = some (.map es clock) ∧ es.toList.map (fun e => (e.key, e.val)) = L.map (fun p => (enc p.1, encv p.2)) ∧ (∀ p ∈ L, ok p.1) ∧ (L.map (·.1)).Nodup ∧ L.length = n ∧ (∀ a, mget L a = F a) ∧ BornOk es clock
variable {P : Program} {k e t : TypeId} {ok : α → Prop} {enc : α → Value} {encv : β → Value} {z : Value} {w : World} {M n : Nat} {F : α → Option β}
theorem MapAt.lt (h : MapAt enc encv ok w M n F) : M < w.heap.size := by
  obtain ⟨es, clock, L, hb, _⟩ := h
  exact (Array.getElem?_eq_some_iff.1 hb).1
omit [DecidableEq α] in
theorem MapAt.found (T : MapTy P k e t ok enc encv z) (w : World) {es : Array MapEntry} {L : List (α × β)} (hL : es.toList.map (fun e => (e.key, e.val)) = L.map (fun p => (enc p.1, encv p.2))) (hok : ∀ p ∈ L, ok p.1) (a : α) (ha : ok a) :
    ((Instr.findKey k (enc a) es.toList).run P w = .ok none w ∧ ∀ p ∈ L, p.1 ≠ a) ∨ ∃ j e0 p, (Instr.findKey k (enc a) es.toList).run P w = .ok (some (j, encv p.2)) w ∧ es.toList[j]? = some e0 ∧ e0.key = enc a ∧ e0.val = encv p.2 ∧ L[j]? = some p ∧ p.1 = a := by
  obtain ⟨l, hl⟩ := T.hkey a ha
  have hks : ∀ x ∈ es.toList, ∃ l, keyOf P k x.key = some l := fun x hx => by
    have : (x.key, x.val) ∈ L.map (fun p => (enc p.1, encv p.2)) := by rw [← hL]; exact List.mem_map.2 ⟨x, hx, rfl⟩
    obtain ⟨p, hp, he⟩ := List.mem_map.1 this
    have e1 : enc p.1 = x.key := congrArg Prod.fst he
    rw [← e1]
    exact T.hkey _ (hok p hp)
  rcases T.K.find w hl es.toList hks with ⟨h1, h2⟩ | ⟨j, e0, h1, h2, h3⟩
  · refine .inl ⟨h1, fun p hp hpa => ?_⟩
    have : (enc p.1, encv p.2) ∈ es.toList.map (fun e => (e.key, e.val)) := by rw [hL]; exact List.mem_map.2 ⟨p, hp, rfl⟩
    obtain ⟨x, hx, he⟩ := List.mem_map.1 this
    exact h2 x hx ((congrArg Prod.fst he).trans (by rw [hpa]))
  · have hj : (L.map (fun p => (enc p.1, encv p.2)))[j]? = some (e0.key, e0.val) := by rw [← hL, List.getElem?_map, h2]; rfl
    rw [List.getElem?_map, Option.map_eq_some_iff] at hj
    obtain ⟨p, hp, he⟩ := hj
    have e1 : enc p.1 = e0.key := congrArg Prod.fst he
    have e2 : encv p.2 = e0.val := congrArg Prod.snd he
    exact .inr ⟨j, e0, p, by rw [e2]; exact h1, h2, h3, e2.symm, hp, T.inj _ _ (e1.trans h3)⟩
/-- 'm[a]', and with ok -/
theorem MapAt.look (T : MapTy P k e t ok enc encv z) (h : MapAt enc encv ok w M n F) (a : α) (ha : ok a) (c : Bool) :
    (Instr.lookup t (.map (some M)) (enc a) c).run P w = .ok (if c then .tuple #[(F a).elim z encv, .bool (F a).isSome] else (F a).elim z encv) w := by
  obtain ⟨es, clock, L, hb, hL, hok, hd, hn, hF, hB⟩ := h
  obtain ⟨l, hl⟩ := T.hkey a ha
  rcases MapAt.found T w hL hok a ha with ⟨h1, h2⟩ | ⟨j, e0, p, h1, h2, h3, h4, h5, rfl⟩
  · rw [← hF, mget_none h2]
    simp [Instr.lookup, run_underlying T.ht, MapKept.run_getObj_map hb, T.K.check w _ hl, h1, T.hz, Result.andThen]
  · rw [← hF, mget_at hd h5]
    simp [Instr.lookup, run_underlying T.ht, MapKept.run_getObj_map hb, T.K.check w _ hl, h1, Result.andThen]
theorem MapAt.len (T : MapTy P k e t ok enc encv z) (h : MapAt enc encv ok w M n F) (ty : TypeId) : (Builtin.len_ #[t] ty #[.map (some M)]).run P w = .ok (.int .i64 n) w := by
  obtain ⟨es, clock, L, hb, hL, hok, hd, hn, hF, hB⟩ := h
  have e1 : es.size = n := by
    have := congrArg List.length hL
    simpa [hn] using this
  simp [Builtin.len_, run_underlying T.ht, MapKept.run_getObj_map hb, goInt, Result.andThen, e1]
/-- the map's block, another one in its place -/
theorem Chg.of_setBlock {w : World} {M : Nat} (o : Obj) : Chg w (setBlock w M o) (fun k => k = M) :=
  ⟨rfl, rfl, rfl, by simp [setBlock], fun k hk hn => by simp only [setBlock]; rw [Array.getElem?_setIfInBounds_ne (fun e => hn e.symm)]⟩
theorem MapAt.store (T : MapTy P k e t ok enc encv z) (h : MapAt enc encv ok w M n F) (a : α) (b : β) (ha : ok a) :
    ∃ w', (Instr.mapUpdate t (.map (some M)) (enc a) (encv b)).run P w = .ok () w' ∧ MapAt enc encv ok w' M (if (F a).isSome then n else n + 1) (fun c => if c = a then some b else F c) ∧ Chg w w' (fun k => k = M) := by
  obtain ⟨es, clock, L, hb, hL, hok, hd, hn, hF, hB⟩ := h
  obtain ⟨l, hl⟩ := T.hkey a ha
  have hlt := (Array.getElem?_eq_some_iff.1 hb).1
  rcases MapAt.found T w hL hok a ha with ⟨h1, h2⟩ | ⟨j, e0, p, h1, h2, h3, h4, h5, rfl⟩
  · refine ⟨setBlock w M (.map (es.push ⟨enc a, encv b, clock⟩) (clock + 1)), ?_, ⟨es.push ⟨enc a, encv b, clock⟩, clock + 1, L ++ [(a, b)], by simp [setBlock, hlt], ?_, ?_, ?_, ?_, ?_, ?_⟩, Chg.of_setBlock _⟩
    · simp [Instr.mapUpdate, run_underlying T.ht, MapKept.run_getObj_map hb, T.K.check w false hl, h1, MapKept.run_setObj_map _ hb, Result.andThen, setBlock]
    · simp [hL]
    · intro p hp
      rcases List.mem_append.1 hp with hp | hp
      · exact hok p hp
      · simp at hp; subst hp; exact ha
    · rw [List.map_append, List.nodup_append]
      refine ⟨hd, by simp, ?_⟩
      intro x hx y hy e
      simp at hy
      subst hy
      obtain ⟨p, hp, rfl⟩ := List.mem_map.1 hx
      exact h2 p hp e
    · rw [← hF, mget_none h2]; simp [hn]
    · intro c; rw [mget_push _ _ _ _ h2, hF]
    · refine ⟨fun x hx => ?_, ?_⟩
      · rw [Array.toList_push] at hx
        rcases List.mem_append.1 hx with hx | hx
        · have := hB.1 x hx; omega
        · rw [List.mem_singleton.1 hx]; exact Nat.lt_succ_self _
      · rw [Array.toList_push, List.map_append, List.nodup_append]
        refine ⟨hB.2, by simp, fun x hx y hy e => ?_⟩
        simp at hy
        obtain ⟨p, hp, rfl⟩ := List.mem_map.1 hx
        have := hB.1 p hp
        omega
  · have hj : es[j]? = some e0 := by simpa using h2
    have hlist : (es.modify j (fun e' => { e' with key := enc p.1, val := encv b })).toList = es.toList.set j { e0 with key := enc p.1, val := encv b } := by rw [Array.toList_modify, modify_eq_set _ _ _ _ h2]
    refine ⟨setBlock w M (.map (es.modify j (fun e' => { e' with key := enc p.1, val := encv b })) clock), ?_, ⟨es.modify j (fun e' => { e' with key := enc p.1, val := encv b }), clock, L.set j (p.1, b), by simp [setBlock, hlt], ?_, ?_, ?_, ?_, ?_, ?_⟩, Chg.of_setBlock _⟩
    · simp [Instr.mapUpdate, run_underlying T.ht, MapKept.run_getObj_map hb, T.K.check w false hl, h1, hj, h3, T.K.stays w hl, MapKept.run_setObj_map _ hb, Result.andThen, setBlock]
    · rw [hlist, List.map_set, List.map_set, hL]
    · intro q hq
      rcases List.mem_or_eq_of_mem_set hq with hq | rfl
      · exact hok q hq
      · exact ha
    · rw [List.map_set]
      have : (L.map (·.1)).set j p.1 = L.map (·.1) := by
        apply List.ext_getElem?
        intro i
        rw [List.getElem?_set]
        split
        · rename_i e
          subst e
          rw [List.getElem?_map, h5]
          have := (List.getElem?_eq_some_iff.1 h5).1
          simp [this]
        · rfl
      simp only at this ⊢
      rw [this]
      exact hd
    · rw [← hF, mget_at hd h5]; simp [hn]
    · intro c; rw [mget_set hd h5, hF]
    · have hbm : (es.toList.set j { e0 with key := enc p.1, val := encv b }).map (·.born) = es.toList.map (·.born) := by
        rw [List.map_set]
        apply List.ext_getElem?
        intro i
        rw [List.getElem?_set]
        split
        · rename_i e
          subst e
          rw [List.getElem?_map, h2]
          have := (List.getElem?_eq_some_iff.1 h2).1
          simp
          simpa using this
        · rfl
      rw [BornOk, hlist, hbm]
      refine ⟨fun x hx => ?_, hB.2⟩
      have h6 : x.born ∈ es.toList.map (·.born) := by rw [← hbm]; exact List.mem_map.2 ⟨x, hx, rfl⟩
      obtain ⟨y, hy, he⟩ := List.mem_map.1 h6
      rw [← he]
      exact hB.1 y hy
theorem MapAt.drop (T : MapTy P k e t ok enc encv z) (h : MapAt enc encv ok w M n F) (a : α) (ha : ok a) (ty : TypeId) :
    ∃ w', (Builtin.delete_ #[t, k] ty #[.map (some M), enc a]).run P w = .ok (.tuple #[]) w' ∧ MapAt enc encv ok w' M (if (F a).isSome then n - 1 else n) (fun c => if c = a then none else F c) ∧ Chg w w' (fun k => k = M) := by
  obtain ⟨es, clock, L, hb, hL, hok, hd, hn, hF, hB⟩ := h
  obtain ⟨l, hl⟩ := T.hkey a ha
  have hlt := (Array.getElem?_eq_some_iff.1 hb).1
  rcases MapAt.found T w hL hok a ha with ⟨h1, h2⟩ | ⟨j, e0, p, h1, h2, h3, h4, h5, rfl⟩
  · refine ⟨setBlock w M (.map es clock), ?_, ⟨es, clock, L, by simp [setBlock, hlt], hL, hok, hd, ?_, ?_, hB⟩, Chg.of_setBlock _⟩
    · simp [Builtin.delete_, run_underlying T.ht, MapKept.run_getObj_map hb, T.K.check w _ hl, h1, MapKept.run_setObj_map _ hb, Result.andThen, setBlock]
    · rw [← hF, mget_none h2]; simp [hn]
    · intro c
      show mget L c = if c = a then none else F c
      by_cases e : c = a
      · subst e; rw [if_pos rfl, mget_none h2]
      · rw [if_neg e, hF]
  · have hjl : j < es.size := by have := (List.getElem?_eq_some_iff.1 h2).1; simpa using this
    refine ⟨setBlock w M (.map (es.eraseIdxIfInBounds j) clock), ?_, ⟨es.eraseIdxIfInBounds j, clock, L.eraseIdx j, by simp [setBlock, hlt], ?_, ?_, ?_, ?_, ?_, ?_⟩, Chg.of_setBlock _⟩
    · simp [Builtin.delete_, run_underlying T.ht, MapKept.run_getObj_map hb, T.K.check w _ hl, h1, MapKept.run_setObj_map _ hb, Result.andThen, setBlock]
    · have : (es.eraseIdxIfInBounds j).toList = es.toList.eraseIdx j := by
        rw [Array.eraseIdxIfInBounds]
        simp [hjl]
      rw [this, map_eraseIdx, map_eraseIdx, hL]
    · intro q hq
      exact hok q ((List.eraseIdx_sublist _ _).subset hq)
    · exact hd.sublist ((List.eraseIdx_sublist L j).map _)
    · rw [← hF, mget_at hd h5, List.length_eraseIdx]
      have := (List.getElem?_eq_some_iff.1 h5).1
      simp [hn]; omega
    · intro c; rw [mget_erase hd h5, hF]
    · have he : (es.eraseIdxIfInBounds j).toList = es.toList.eraseIdx j := by
        rw [Array.eraseIdxIfInBounds]
        simp [hjl]
      rw [BornOk, he]
      exact ⟨fun x hx => hB.1 x ((List.eraseIdx_sublist _ _).subset hx), hB.2.sublist ((List.eraseIdx_sublist _ j).map _)⟩
/-- a map of one entry, as it is ranged over -/
theorem MapAt.one {a : α} {b : β} (h : MapAt enc encv ok w M n F) (hn : n = 1) (ha : F a = some b) : ∃ (e : MapEntry) (clock : Nat), w.heap[M]? = some (.map #[e] clock) ∧ e.key = enc a ∧ e.val = encv b ∧ e.born < clock := by
  obtain ⟨es, clock, L, hb, hL, hok, hd, hl, hF, hB⟩ := h
  have hl1 : L.length = 1 := by omega
  have he1 : es.toList.length = 1 := by
    have := congrArg List.length hL
    rw [List.length_map, List.length_map, hl1] at this
    exact this
  obtain ⟨p, rfl⟩ := List.length_eq_one_iff.1 hl1
  obtain ⟨e, he⟩ := List.length_eq_one_iff.1 he1
  have hes : es = #[e] := by
    rw [← Array.toList_inj, he]
  subst hes
  have hf := hF a
  rw [ha] at hf
  simp at hL
  have hp : p = (a, b) := by
    unfold mget at hf
    obtain ⟨p1, p2⟩ := p
    by_cases hpa : p1 = a
    · subst hpa; simp at hf; rw [hf]
    · simp [hpa] at hf
      cases hf
  subst hp
  exact ⟨e, clock, hb, hL.1, hL.2, hB.1 e (by simp)⟩
/-- a map, as an assertion -/
def mapA (enc : α → Value) (encv : β → Value) (ok : α → Prop) (M n : Nat) (F : α → Option β) : Asn where
  holds w S := (∀ k, S k ↔ k = M) ∧ MapAt enc encv ok w M n F
  keep w w' S h hs hk := ⟨h.1, by
    obtain ⟨h0, es, clock, L, hb, h⟩ := h
    exact ⟨es, clock, L, (hk M ((h0 M).2 rfl)).trans hb, h⟩⟩
  inb w S h k hk := by rw [(h.1 k).1 hk]; exact h.2.lt
variable {W wx : World} {l : List Asn}
theorem Own.map (i : Nat) (h : Own W wx l) (hi : l[i]? = some (mapA enc encv ok M n F)) : MapAt enc encv ok wx M n F := by
  obtain ⟨A, hA, _⟩ := h.at hi
  exact hA.2
theorem Own.newMap (h : Own W wx l) (enc : α → Value) (encv : β → Value) (ok : α → Prop) : Own W (wx.alloc (.map #[] 0)) (mapA enc encv ok wx.heap.size 0 (fun _ => none) :: l) :=
  h.add (Chg.of_alloc wx _ _) (Q := mapA enc encv ok wx.heap.size 0 (fun _ => none)) (A := fun k => k = wx.heap.size)
    ⟨fun k => Iff.rfl, #[], 0, [], (MapKept.heap_alloc wx _).1, rfl, ⟨(fun p hp => by cases hp), List.nodup_nil, rfl, fun a => rfl, (fun x hx => by cases hx), List.nodup_nil⟩⟩ (fun k hk => by omega)
theorem Own.mapStore (T : MapTy P k e t ok enc encv z) (h : Own W wx (mapA enc encv ok M n F :: l)) (a : α) (b : β) (ha : ok a) :
    ∃ w', (Instr.mapUpdate t (.map (some M)) (enc a) (encv b)).run P wx = .ok () w' ∧ Own W w' (mapA enc encv ok M (if (F a).isSome then n else n + 1) (fun c => if c = a then some b else F c) :: l) := by
  obtain ⟨w', h1, h2, h3⟩ := MapAt.store T (h.map 0 rfl) a b ha
  exact ⟨w', h1, Own.step (A := fun _ => False) h fun A hA => ⟨A, h3.mono fun k hk => (hA.1 k).2 hk, ⟨hA.1, h2⟩, fun k hk => .inl hk⟩⟩
theorem Own.mapDrop (T : MapTy P k e t ok enc encv z) (h : Own W wx (mapA enc encv ok M n F :: l)) (a : α) (ha : ok a) (ty : TypeId) :
    ∃ w', (Builtin.delete_ #[t, k] ty #[.map (some M), enc a]).run P wx = .ok (.tuple #[]) w' ∧ Own W w' (mapA enc encv ok M (if (F a).isSome then n - 1 else n) (fun c => if c = a then none else F c) :: l) := by
  obtain ⟨w', h1, h2, h3⟩ := MapAt.drop T (h.map 0 rfl) a ha ty
  exact ⟨w', h1, Own.step (A := fun _ => False) h fun A hA => ⟨A, h3.mono fun k hk => (hA.1 k).2 hk, ⟨hA.1, h2⟩, fun k hk => .inl hk⟩⟩
/-- 'm[a] = b' in a plain walk -/
theorem wpList_mapUpdate_O (T : MapTy P k e t ok enc encv z) {w : World} {ops : Array Oper} {rest : List Oper} {o : Oper} {a : Act} {Q : Exit → Act → World → Prop} (hgd : o.guard = none) (m x v : Operand) (ho : o.op = Op.mapUpdate t m x v)
    (h : Own W w (mapA enc encv ok M n F :: l)) (key : α) (val : β) (hok : ok key) (hm : a.eval m = .map (some M)) (hx : a.eval x = enc key) (hv : a.eval v = encv val)
    (K : ∀ w', Own W w' (mapA enc encv ok M (if (F key).isSome then n else n + 1) (fun c => if c = key then some val else F c) :: l) → wpList P ops Q rest (a.put o.dst undef) w') : wpList P ops Q (o :: rest) a w := by
  refine wpList_plain hgd fun K' hK' => ?_
  obtain ⟨w', hrun, r1⟩ := Own.mapStore T h key val hok
  unfold Oper.wp
  simp [execOp, ho, hm, hx, hv, hrun, Result.andThen]
  exact hK' _ _ (K w' r1)
/-- 'delete(m, a)' in a plain walk -/
theorem wpList_delete_O (T : MapTy P k e t ok enc encv z) {w : World} {ops : Array Oper} {rest : List Oper} {o : Oper} {a : Act} {Q : Exit → Act → World → Prop} (hgd : o.guard = none) (m x : Operand)
    (ho : o.op = Op.call { callee := Callee.builtin Builtin.delete, args := #[m, x], argTypes := #[t, k] })
    (h : Own W w (mapA enc encv ok M n F :: l)) (key : α) (hok : ok key) (hm : a.eval m = .map (some M)) (hx : a.eval x = enc key)
    (K : ∀ w', Own W w' (mapA enc encv ok M (if (F key).isSome then n - 1 else n) (fun c => if c = key then none else F c) :: l) → wpList P ops Q rest (a.put o.dst (.tuple #[])) w') : wpList P ops Q (o :: rest) a w := by
  refine wpList_plain hgd fun K' hK' => ?_
  obtain ⟨w', hrun, r1⟩ := Own.mapDrop T h key hok o.type
  unfold Oper.wp
  simp [execOp, ho, resolve, invoke, builtin, hm, hx, hrun, Result.andThen]
  exact hK' _ _ (K w' r1)
end
end Go
-- Disk
/- disk: files as an assertion; New, Cut, Dead, find, open, Read, Size, Append, Sync, Truncate: walks. -/
set_option linter.unusedSimpArgs false
set_option linter.unusedVariables false
set_option maxRecDepth 100000
namespace Go.Proofs.YtpdlgflbcgemnaaGreatDoor
open Go.RowKit
abbrev ptV (X : Nat) : Value := .pointer (some ⟨X, 0, none⟩)
/-- a file: its bytes, and how many of them are sure -/
structure Fl where
  s : ByteArray
  sure : Nat
abbrev Fl.v (f : Fl) : Value := .agg #[.string f.s, .int .i64 (f.sure : Int)]
abbrev fl0 : Fl := ⟨⟨#[]⟩, 0⟩
/-- a file's name that may be -/
def okS (a : ByteArray) : Prop := 1 ≤ a.size ∧ a.size ≤ 32
theorem dmapTy : MapTy Tryz.prog 9 86 46 okS Value.string Fl.v fl0.v where
  K := Maps.string_keyed (by kernel_rfl)
  ht := by kernel_rfl
  hz w := by kernel_rfl
  hkey a h := ⟨_, WideMaps.keyOf_string_mk (by kernel_rfl) (by unfold maxLen; have := h.2; omega)⟩
  inj a b h := by simpa using h
/-- a disk -/
structure Dk where
  n : Nat
  F : ByteArray → Option Fl
  room : Nat
  dead : Bool
def diskL (D : Nat) (d : Dk) (M : Nat) : List Asn := [cellsA D [.map (some M), .int .i64 (d.room : Int), .bool d.dead], mapA Value.string Fl.v okS M d.n d.F]
def diskA (D : Nat) (d : Dk) : Asn := exA fun M : Nat => diskL D d M
def putF (F : ByteArray → Option Fl) (a : ByteArray) (f : Fl) : ByteArray → Option Fl := fun c => if c = a then some f else F c
section
variable {W wx : World} {l : List Asn} {D : Nat} {d : Dk}
set_option maxRecDepth 100000 in
theorem disk_at (h : Own W wx (diskA D d :: l)) : ∃ M, D < wx.heap.size ∧ wx.cell? ⟨D, 0, none⟩ = some (.map (some M)) ∧ wx.cell? ⟨D, 1, none⟩ = some (.int .i64 (d.room : Int)) ∧ wx.cell? ⟨D, 2, none⟩ = some (.bool d.dead) ∧ (∀ i, wx.frozen? ⟨D, i, none⟩ = false) ∧
    (∀ (a : ByteArray) (c : Bool), okS a → (Instr.lookup 46 (.map (some M)) (.string a) c).run Tryz.prog wx = .ok (if c then .tuple #[(d.F a).elim fl0.v Fl.v, .bool (d.F a).isSome] else (d.F a).elim fl0.v Fl.v) wx) ∧
    (∀ ty, (Builtin.len_ #[46] ty #[.map (some M)]).run Tryz.prog wx = .ok (.int .i64 d.n) wx) ∧ Own W wx (diskL D d M ++ l) := by
  obtain ⟨M, O⟩ := h.ex
  obtain ⟨lD, qD, fD⟩ := O.cells 0 rfl
  exact ⟨M, lD, qD 0 (by simp), qD 1 (by simp), qD 2 (by simp), fD, fun a c ha => MapAt.look dmapTy (O.map 1 rfl) a ha c, fun ty => MapAt.len dmapTy (O.map 1 rfl) ty, O⟩
theorem diskNew_O (h : Own W wx l) : Calls Tryz.prog 4 #[] wx fun e w' => ∃ D, e = .returned (ptV D) ∧ Own W w' (diskA D ⟨0, fun _ => none, 4611686018427387904, false⟩ :: l) := by
  have hmm := @run_makeMap Tryz.prog
  have O1 := (h.newMap Value.string Fl.v okS).newCells [.map (some wx.heap.size), .int .i64 4611686018427387904, .bool false] 48
  have O2 := Own.mk (fun M : Nat => diskL _ ⟨0, fun _ => none, 4611686018427387904, false⟩ M) _ O1
  rw [World.size_alloc] at O2
  replace O2 := Lib.hid O2
  clear O1 h
  go_enter Tryz.func4, Tryz.ntmps4
  go_wp2_with fail
  go_ret
  exact ⟨_, rfl, O2.out⟩
theorem diskDead_O (h : Own W wx (diskA D d :: l)) : Calls Tryz.prog 8 #[ptV D] wx fun e w' => e = .returned (.bool d.dead) ∧ wx.Plus w' := by
  obtain ⟨M, lD, c0, c1, c2, -⟩ := disk_at h
  haveI : InW D wx := ⟨lD⟩
  clear h lD
  go_enter Tryz.func8, Tryz.ntmps8
  go_wp2_with fail
  go_ret
  exact ⟨rfl, by (repeat (first | exact Plus.refl _ | apply Plus.plus | apply Plus.alloc | apply Plus.drew))⟩
theorem diskFind_O (h : Own W wx (diskA D d :: l)) (a : ByteArray) (ha : okS a) : Calls Tryz.prog 57 #[ptV D, .string a] wx fun e w' => e = .returned (.tuple #[((d.F a).getD fl0).v, .int .i64 (if (d.F a).isSome then 0 else 6)]) ∧ wx.Plus w' := by
  obtain ⟨M, lD, c0, c1, c2, -, hL, -⟩ := disk_at (h.alloc (.cells #[.string ⟨#[]⟩, .int .i64 0] 86))
  have hL := hL a true ha
  obtain ⟨ha1, ha2⟩ := ha
  haveI : InW D (wx.alloc (.cells #[.string ⟨#[]⟩, .int .i64 0] 86)) := ⟨lD⟩
  have h1 : ¬ (a.size : Int) < 1 := by omega
  have h2 : ¬ (32 : Int) < (a.size : Int) := by omega
  clear lD c1 c2
  cases hF : d.F a with
  | none =>
    rw [hF] at hL
    simp only [Option.elim, Option.isSome, if_true] at hL
    go_enter Tryz.func57, Tryz.ntmps57
    go_wp2_with fail
    exact bodyPost_ret (v := .tuple #[fl0.v, .int .i64 6]) (by simp [results, Tryz.results57, go_sem]) rfl ⟨rfl, by (repeat (first | exact Plus.refl _ | apply Plus.plus | apply Plus.alloc | apply Plus.drew))⟩
  | some f =>
    rw [hF] at hL
    simp only [Option.elim, Option.isSome, if_true] at hL
    go_enter Tryz.func57, Tryz.ntmps57
    go_wp2_with fail
    exact bodyPost_ret (v := .tuple #[f.v, .int .i64 0]) (by simp [results, Tryz.results57, go_sem]) rfl ⟨rfl, by (repeat (first | exact Plus.refl _ | apply Plus.plus | apply Plus.alloc | apply Plus.drew))⟩
theorem diskOpen_O (h : Own W wx (diskA D d :: l)) (hd : d.dead = false) (a : ByteArray) (ha : okS a) : Calls Tryz.prog 54 #[ptV D, .string a] wx fun e w' => e = .returned (.tuple #[((d.F a).getD fl0).v, .int .i64 (if (d.F a).isSome then 0 else 6)]) ∧ wx.Plus w' := by
  have h1 := h.alloc (.cells #[.string ⟨#[]⟩, .int .i64 0] 86)
  have kF := diskFind_O h1 a ha
  obtain ⟨f, hf⟩ : ∃ f, f = (d.F a).getD fl0 := ⟨_, rfl⟩
  obtain ⟨c, hc⟩ : ∃ c : Int, c = if (d.F a).isSome then 0 else 6 := ⟨_, rfl⟩
  have hc1 : ¬ c = 1 := by rw [hc]; split <;> omega
  have hc1b : (c != 1) = true := by simpa using hc1
  rw [← hf, ← hc] at kF ⊢
  obtain ⟨M, lD, c0, c1, c2, -⟩ := disk_at h1
  rw [hd] at c2
  haveI : InW D (wx.alloc (.cells #[.string ⟨#[]⟩, .int .i64 0] 86)) := ⟨lD⟩
  replace kF := Lib.hid kF
  clear h h1 hf hc c0 c1 lD hd
  go_enter Tryz.func54, Tryz.ntmps54
  go_wp2_with (go_at_call 57; (with_reducible refine kF.out.mono ?_); rintro e w' ⟨rfl, e0, rfl⟩)
  exact bodyPost_ret (v := .tuple #[f.v, .int .i64 c]) (by simp [results, Tryz.results54, go_sem]) rfl ⟨rfl, by (repeat (first | exact Plus.refl _ | apply Plus.plus | apply Plus.alloc | apply Plus.drew))⟩
theorem diskRead_O (h : Own W wx (diskA D d :: l)) (a : ByteArray) (ha : okS a) : Calls Tryz.prog 19 #[ptV D, .string a] wx fun e w' => e = .returned (.tuple #[.string ((d.F a).getD fl0).s, .int .i64 (if (d.F a).isSome then 0 else 6)]) ∧ wx.Plus w' := by
  have kF := diskFind_O h a ha
  obtain ⟨f, hf⟩ : ∃ f, f = (d.F a).getD fl0 := ⟨_, rfl⟩
  obtain ⟨c, hc⟩ : ∃ c : Int, c = if (d.F a).isSome then 0 else 6 := ⟨_, rfl⟩
  rw [← hf, ← hc] at kF ⊢
  clear h hf hc
  replace kF := Lib.hid kF
  go_enter Tryz.func19, Tryz.ntmps19
  go_wp2_with (go_at_call 57; (with_reducible refine kF.out.mono ?_); rintro e w' ⟨rfl, e0, rfl⟩)
  go_ret2
  exact ⟨rfl, by (repeat (first | exact Plus.refl _ | apply Plus.plus | apply Plus.alloc | apply Plus.drew))⟩
theorem diskSize_O (h : Own W wx (diskA D d :: l)) (a : ByteArray) (ha : okS a) : Calls Tryz.prog 73 #[ptV D, .string a] wx fun e w' => e = .returned (.tuple #[.int .i64 (((d.F a).getD fl0).s.size : Int), .int .i64 (((d.F a).getD fl0).sure : Int), .int .i64 (if (d.F a).isSome then 0 else 6)]) ∧ wx.Plus w' := by
  have kF := diskFind_O h a ha
  obtain ⟨f, hf⟩ : ∃ f, f = (d.F a).getD fl0 := ⟨_, rfl⟩
  obtain ⟨c, hc⟩ : ∃ c : Int, c = if (d.F a).isSome then 0 else 6 := ⟨_, rfl⟩
  rw [← hf, ← hc] at kF ⊢
  clear h hf hc
  replace kF := Lib.hid kF
  go_enter Tryz.func73, Tryz.ntmps73
  go_upto_region 2 with (go_at_call 57; (with_reducible refine kF.out.mono ?_); rintro e w' ⟨rfl, e0, rfl⟩)
  refine wp_region_grow (by kernel_rfl) (by kernel_rfl) ?_
  repeat (go_big_quiet_step (fail))
  refine wpQuiet_nil ?_
  intro ex
  go_wp2_with fail
  exact bodyPost_ret (v := .tuple #[.int .i64 (f.s.size : Int), .int .i64 (f.sure : Int), .int .i64 c]) (by simp [results, Tryz.results73, go_sem]) rfl ⟨rfl, by (repeat (first | exact Plus.refl _ | apply Plus.plus | apply Plus.alloc | apply Plus.drew))⟩
theorem diskCut_O (h : Own W wx (diskA D d :: l)) (hd : d.dead = false) (n : Nat) : Calls Tryz.prog 6 #[ptV D, .int .i64 (n : Int)] wx (OwnTo W (.tuple #[]) (diskA D { d with room := n } :: l)) := by
  obtain ⟨M, lD, c0, c1, c2, fD, -, -, O⟩ := disk_at h
  have f1 := fD 1
  rw [hd] at c2
  have hm : max (0 : Int) (n : Int) = (n : Int) := by omega
  have O2 := Lib.hid (Own.mk (fun M : Nat => diskL D { d with room := n } M) M (O.setCellAt 0 1 (.int .i64 (n : Int)) rfl (by simp)))
  haveI : InW D wx := ⟨lD⟩
  clear h c0 fD O lD
  go_enter Tryz.func6, Tryz.ntmps6
  go_wp2_with fail
  go_end0
  exact ⟨rfl, O2.out⟩
/-- bytes behind a file's; as many as there is room for -/
def apF (d : Dk) (a s : ByteArray) : Fl := ⟨((d.F a).getD fl0).s ++ s.extract 0 (min s.size d.room), ((d.F a).getD fl0).sure⟩
def apD (d : Dk) (a s : ByteArray) : Dk := ⟨if (d.F a).isSome then d.n else d.n + 1, putF d.F a (apF d a s), d.room - min s.size d.room, decide (d.room < s.size)⟩
theorem diskAppend_O (h : Own W wx (diskA D d :: l)) (hd : d.dead = false) (a s : ByteArray) (ha : okS a) (hr : d.room ≤ 4611686018427387904) (hn : (d.F a).isSome = true ∨ d.n < 64) (hs : s.size + ((d.F a).getD fl0).s.size ≤ 4194304) :
    Calls Tryz.prog 17 #[ptV D, .string a, .string s] wx (OwnTo W (.int .i64 (if d.room < s.size then 12 else 0)) (diskA D (apD d a s) :: l)) := by
  have kO := diskOpen_O h hd a ha
  have eF : apF d a s = ⟨((d.F a).getD fl0).s ++ s.extract 0 (min s.size d.room), ((d.F a).getD fl0).sure⟩ := rfl
  have eD : apD d a s = ⟨if (d.F a).isSome then d.n else d.n + 1, putF d.F a (apF d a s), d.room - min s.size d.room, decide (d.room < s.size)⟩ := rfl
  rw [eD]
  generalize apF d a s = fl at *
  clear eD
  obtain ⟨f, hf⟩ : ∃ f, f = (d.F a).getD fl0 := ⟨_, rfl⟩
  rw [← hf] at kO hs eF
  obtain ⟨k, hk⟩ : ∃ k, k = min s.size d.room := ⟨_, rfl⟩
  rw [← hk] at eF ⊢
  obtain ⟨b, hb⟩ : ∃ b, b = (d.F a).isSome := ⟨_, rfl⟩
  rw [← hb] at kO hn ⊢
  obtain ⟨c, hc⟩ : ∃ c : Int, c = if b then 0 else 6 := ⟨_, rfl⟩
  rw [← hc] at kO
  subst eF
  replace hk := Lib.hid hk
  replace hf := Lib.hid hf
  replace hb := Lib.hid hb
  replace h := Lib.hid h
  cases b with
  | true =>
    simp only [if_true] at hc
    subst hc
    replace kO := Lib.hid kO
    go_enter Tryz.func17, Tryz.ntmps17
    go_upto_region 2 with (go_at_call 54; (with_reducible refine kO.out.mono ?_); rintro e w' ⟨rfl, e0, rfl⟩)
    clear kO
    have O2 := ((h.out.plus e0).newCells [.string f.s, .int .i64 (f.sure : Int)] 86).rot1
    clear h
    rw [World.size_plus_eq] at O2
    generalize wx.heap.size + e0.objs.size = B at *
    generalize hw2 : (wx.plus e0).alloc _ = w2 at *
    clear hw2 e0
    obtain ⟨M, lD, c0, c1, -, fD, -, hLen, O⟩ := disk_at O2
    simp only [diskL, List.cons_append, List.nil_append] at O
    clear O2
    obtain ⟨lB, qB, fB⟩ := O.cells 2 rfl
    have b0 := qB 0 (by simp)
    have b1 := qB 1 (by simp)
    have fb0 := fB 0
    simp only [List.getElem?_cons_succ, List.getElem?_cons_zero] at b0 b1
    haveI : InW D w2 := ⟨lD⟩
    haveI : InW B w2 := ⟨lB⟩
    have g1 : ¬ (64 : Int) ≤ (d.n : Int) ∨ True := .inr trivial
    have g2 : ¬ wrap64 (4194304 - (f.s.size : Int)) < (s.size : Int) := by unfold wrap64; omega
    have g3 : min (s.size : Int) (d.room : Int) = (k : Int) := by rw [hk.out]; omega
    have g4 : (k : Int) ≤ (s.size : Int) := by rw [hk.out]; omega
    have g5 : k ≤ s.size := by omega
    have g6 : ¬ 9223372036854775807 < f.s.size + (s.extract 0 k).size := by rw [ByteArray.size_extract]; omega
    clear qB fB fD lD lB
    replace O := Lib.hid O
    go_upto_region 9 with fail
    clear b1 c0 c1 hLen g1 g2 g3
    refine wp_region_grow_tail 7 (by kernel_rfl) (by kernel_rfl) ?_
    simp only [List.take_succ_cons, List.take_zero, List.drop_succ_cons, List.drop_zero]
    repeat (go_big_quiet_step (fail))
    refine wpQuiet_nil ?_
    intro ex
    go_upto_region 10 with fail
    replace O := (O.out.setCellAt 2 0 (.string (f.s ++ s.extract 0 k)) rfl (by simp)).plus ex
    simp only [List.set_cons_succ, List.set_cons_zero] at O
    clear b0
    generalize World.plus _ ex = w3 at *
    obtain ⟨lD, qD, fD⟩ := O.cells 0 rfl
    obtain ⟨lB, qB, -⟩ := O.cells 2 rfl
    have b0 := qB 0 (by simp)
    have b1 := qB 1 (by simp)
    have c0 := qD 0 (by simp)
    simp only [List.getElem?_cons_succ, List.getElem?_cons_zero] at b0 b1 c0
    haveI : InW D w3 := ⟨lD⟩
    haveI : InW B w3 := ⟨lB⟩
    clear qD fD qB lD lB ex g6 fb0
    replace O := Lib.hid O
    refine wp_region_grow_tail 6 (by kernel_rfl) (by kernel_rfl) ?_
    simp only [List.take_succ_cons, List.take_zero, List.drop_succ_cons, List.drop_zero]
    repeat (go_big_quiet_step (fail))
    refine wpQuiet_nil ?_
    intro ex
    have OM := Lib.hid ((O.out.plus ex).pull 1 rfl)
    clear O b0 b1 c0
    go_upto_region 11 with (first | (at_mapUpdate; refine wpList_mapUpdate_O dmapTy rfl _ _ _ rfl OM.out a ⟨f.s ++ s.extract 0 k, f.sure⟩ ha rfl rfl rfl ?_; intro w4 O4))
    clear OM
    dsimp only [List.eraseIdx] at O4
    obtain ⟨lD, qD, fD⟩ := O4.cells 1 rfl
    have c1 := qD 1 (by simp)
    have c2 := qD 2 (by simp)
    have f1 := fD 1
    have f2 := fD 2
    simp only [List.getElem?_cons_succ, List.getElem?_cons_zero] at c1 c2
    haveI : InW D w4 := ⟨lD⟩
    clear qD fD lD
    have hkr : k ≤ d.room := by rw [hk.out]; omega
    have e3 : wrap64 ((d.room : Int) - (k : Int)) = (d.room : Int) - (k : Int) := by unfold wrap64; omega
    have e4 : ((d.room - k : Nat) : Int) = (d.room : Int) - (k : Int) := by omega
    replace e4 := Lib.hid e4
    have O5 := O4.setCellAt 1 1 (.int .i64 ((d.room : Int) - (k : Int))) rfl (by simp)
    simp only [List.set_cons_succ, List.set_cons_zero] at O5
    by_cases hlt : d.room < s.size
    · have hks : k < s.size := by rw [hk.out]; omega
      have hksi : (k : Int) < (s.size : Int) := by omega
      have O6 := O5.setCellAt 1 2 (.bool true) rfl (by simp)
      simp only [List.set_cons_succ, List.set_cons_zero] at O6
      rw [decide_eq_true hlt, if_pos hlt]
      have O7 := Lib.hid (O6.pull 2 rfl).drop.rot1
      clear O4 O5 O6
      go_wp2_with fail
      go_ret
      refine ⟨rfl, Own.mk (fun M : Nat => diskL D _ M) M ?_⟩
      have h7 := O7.out
      rw [← hb.out] at h7
      unfold diskL
      dsimp only
      rw [e4.out]
      exact h7
    · have hks : ¬ k < s.size := by rw [hk.out]; omega
      have hksi : ¬ (k : Int) < (s.size : Int) := by omega
      rw [decide_eq_false hlt, if_neg hlt]
      rw [hd] at O5
      have O7 := Lib.hid (O5.pull 2 rfl).drop.rot1
      clear O4 O5
      go_wp2_with fail
      go_ret
      refine ⟨rfl, Own.mk (fun M : Nat => diskL D _ M) M ?_⟩
      have h7 := O7.out
      rw [← hb.out] at h7
      unfold diskL
      dsimp only
      rw [e4.out]
      exact h7

  | false =>
    simp only [Bool.false_eq_true, if_false, false_or] at hc hn
    subst hc
    replace kO := Lib.hid kO
    go_enter Tryz.func17, Tryz.ntmps17
    go_upto_region 2 with (go_at_call 54; (with_reducible refine kO.out.mono ?_); rintro e w' ⟨rfl, e0, rfl⟩)
    clear kO
    have O2 := ((h.out.plus e0).newCells [.string f.s, .int .i64 (f.sure : Int)] 86).rot1
    clear h
    rw [World.size_plus_eq] at O2
    generalize wx.heap.size + e0.objs.size = B at *
    generalize hw2 : (wx.plus e0).alloc _ = w2 at *
    clear hw2 e0
    obtain ⟨M, lD, c0, c1, -, fD, -, hLen, O⟩ := disk_at O2
    simp only [diskL, List.cons_append, List.nil_append] at O
    clear O2
    obtain ⟨lB, qB, fB⟩ := O.cells 2 rfl
    have b0 := qB 0 (by simp)
    have b1 := qB 1 (by simp)
    have fb0 := fB 0
    simp only [List.getElem?_cons_succ, List.getElem?_cons_zero] at b0 b1
    haveI : InW D w2 := ⟨lD⟩
    haveI : InW B w2 := ⟨lB⟩
    have g1 : ¬ (64 : Int) ≤ (d.n : Int) ∨ False := (.inl (by omega))
    have g2 : ¬ wrap64 (4194304 - (f.s.size : Int)) < (s.size : Int) := by unfold wrap64; omega
    have g3 : min (s.size : Int) (d.room : Int) = (k : Int) := by rw [hk.out]; omega
    have g4 : (k : Int) ≤ (s.size : Int) := by rw [hk.out]; omega
    have g5 : k ≤ s.size := by omega
    have g6 : ¬ 9223372036854775807 < f.s.size + (s.extract 0 k).size := by rw [ByteArray.size_extract]; omega
    clear qB fB fD lD lB
    replace O := Lib.hid O
    go_upto_region 9 with fail
    clear b1 c0 c1 hLen g1 g2 g3
    refine wp_region_grow_tail 7 (by kernel_rfl) (by kernel_rfl) ?_
    simp only [List.take_succ_cons, List.take_zero, List.drop_succ_cons, List.drop_zero]
    repeat (go_big_quiet_step (fail))
    refine wpQuiet_nil ?_
    intro ex
    go_upto_region 10 with fail
    replace O := (O.out.setCellAt 2 0 (.string (f.s ++ s.extract 0 k)) rfl (by simp)).plus ex
    simp only [List.set_cons_succ, List.set_cons_zero] at O
    clear b0
    generalize World.plus _ ex = w3 at *
    obtain ⟨lD, qD, fD⟩ := O.cells 0 rfl
    obtain ⟨lB, qB, -⟩ := O.cells 2 rfl
    have b0 := qB 0 (by simp)
    have b1 := qB 1 (by simp)
    have c0 := qD 0 (by simp)
    simp only [List.getElem?_cons_succ, List.getElem?_cons_zero] at b0 b1 c0
    haveI : InW D w3 := ⟨lD⟩
    haveI : InW B w3 := ⟨lB⟩
    clear qD fD qB lD lB ex g6 fb0
    replace O := Lib.hid O
    refine wp_region_grow_tail 6 (by kernel_rfl) (by kernel_rfl) ?_
    simp only [List.take_succ_cons, List.take_zero, List.drop_succ_cons, List.drop_zero]
    repeat (go_big_quiet_step (fail))
    refine wpQuiet_nil ?_
    intro ex
    have OM := Lib.hid ((O.out.plus ex).pull 1 rfl)
    clear O b0 b1 c0
    go_upto_region 11 with (first | (at_mapUpdate; refine wpList_mapUpdate_O dmapTy rfl _ _ _ rfl OM.out a ⟨f.s ++ s.extract 0 k, f.sure⟩ ha rfl rfl rfl ?_; intro w4 O4))
    clear OM
    dsimp only [List.eraseIdx] at O4
    obtain ⟨lD, qD, fD⟩ := O4.cells 1 rfl
    have c1 := qD 1 (by simp)
    have c2 := qD 2 (by simp)
    have f1 := fD 1
    have f2 := fD 2
    simp only [List.getElem?_cons_succ, List.getElem?_cons_zero] at c1 c2
    haveI : InW D w4 := ⟨lD⟩
    clear qD fD lD
    have hkr : k ≤ d.room := by rw [hk.out]; omega
    have e3 : wrap64 ((d.room : Int) - (k : Int)) = (d.room : Int) - (k : Int) := by unfold wrap64; omega
    have e4 : ((d.room - k : Nat) : Int) = (d.room : Int) - (k : Int) := by omega
    replace e4 := Lib.hid e4
    have O5 := O4.setCellAt 1 1 (.int .i64 ((d.room : Int) - (k : Int))) rfl (by simp)
    simp only [List.set_cons_succ, List.set_cons_zero] at O5
    by_cases hlt : d.room < s.size
    · have hks : k < s.size := by rw [hk.out]; omega
      have hksi : (k : Int) < (s.size : Int) := by omega
      have O6 := O5.setCellAt 1 2 (.bool true) rfl (by simp)
      simp only [List.set_cons_succ, List.set_cons_zero] at O6
      rw [decide_eq_true hlt, if_pos hlt]
      have O7 := Lib.hid (O6.pull 2 rfl).drop.rot1
      clear O4 O5 O6
      go_wp2_with fail
      go_ret
      refine ⟨rfl, Own.mk (fun M : Nat => diskL D _ M) M ?_⟩
      have h7 := O7.out
      rw [← hb.out] at h7
      unfold diskL
      dsimp only
      rw [e4.out]
      exact h7
    · have hks : ¬ k < s.size := by rw [hk.out]; omega
      have hksi : ¬ (k : Int) < (s.size : Int) := by omega
      rw [decide_eq_false hlt, if_neg hlt]
      rw [hd] at O5
      have O7 := Lib.hid (O5.pull 2 rfl).drop.rot1
      clear O4 O5
      go_wp2_with fail
      go_ret
      refine ⟨rfl, Own.mk (fun M : Nat => diskL D _ M) M ?_⟩
      have h7 := O7.out
      rw [← hb.out] at h7
      unfold diskL
      dsimp only
      rw [e4.out]
      exact h7

end
end Go.Proofs.YtpdlgflbcgemnaaGreatDoor
-- Std
/- the library's functions at the few texts and numbers that a log of one segment asks: walks. -/
set_option linter.unusedSimpArgs false
set_option linter.unusedVariables false
set_option maxRecDepth 100000
namespace Go.Proofs.YtpdlgflbcgemnaaGreatDoor
open Go.RowKit
abbrev tZero : ByteArray := ⟨#[48]⟩
abbrev tSeven : ByteArray := ⟨#[48, 48, 48, 48, 48, 48, 48]⟩
abbrev tEight : ByteArray := ⟨#[48, 48, 48, 48, 48, 48, 48, 48]⟩
abbrev tLog : ByteArray := ⟨#[108, 111, 103]⟩
abbrev tDot : ByteArray := ⟨#[46]⟩
abbrev tLogDot : ByteArray := ⟨#[108, 111, 103, 46]⟩
/-- the one segment's name -/
abbrev nm : ByteArray := ⟨#[108, 111, 103, 46, 48, 48, 48, 48, 48, 48, 48, 48]⟩
theorem conv_bytes (s : ByteArray) (w : World) : ∃ (c : Nat) (w1 : World), (convert 9 99 (.string s)).run Tryz.prog w = .ok (.slice (some ⟨w.heap.size, 0, none⟩) s.size c) w1 ∧ w.Plus w1 ∧ w.heap.size < w1.heap.size ∧ ∀ j (hj : j < s.data.size), w1.cell? ⟨w.heap.size, j, none⟩ = some (.int .u8 (s.data[j].toNat : Int)) := by
  have hr := run_bytes_of_string (P := Tryz.prog) w 9 99 5 s (by kernel_rfl) (by kernel_rfl) (by kernel_rfl)
  generalize grownCap w s.size 0 5 = cap at hr
  have hrow := fun j (hj : j < s.data.size) => bytesRow_at s cap j hj
  generalize hf : ((bytesRow s cap).size, (bytesRow s cap).size + 1) = f at hr
  generalize bytesRow s cap = C at hr hrow
  refine ⟨_, _, hr, Plus.alloc (Plus.drew (Plus.refl w)) _, by rw [World.size_alloc]; exact Nat.lt_succ_self _, fun i hi => ?_⟩
  have hb : (w.drew.alloc (.cells C 5 f)).heap[w.heap.size]? = some (.cells C 5 f) := by
    show (w.heap.push (.cells C 5 f))[w.heap.size]? = _
    simp
  unfold World.cell?
  rw [hb]
  exact hrow i hi
section
variable (w : World)
theorem small0 : Calls Tryz.prog 142 #[.int .i64 0] w fun e w' => e = .returned (.string tZero) ∧ w' = w := by
  go_enter Tryz.func142, Tryz.ntmps142
  go_wp2_with fail
  go_ret
  exact ⟨rfl, rfl⟩
theorem format0 : Calls Tryz.prog 120 #[.int .i64 0, .int .i64 10] w fun e w' => e = .returned (.string tZero) ∧ w' = w := by
  have k := fun w => small0 w
  go_enter Tryz.func120, Tryz.ntmps120
  go_wp2_with (go_at_call 142; (with_reducible refine (k _).mono ?_); rintro e w' ⟨rfl, rfl⟩)
  go_ret
  exact ⟨rfl, rfl⟩
theorem itoa0i : Calls Tryz.prog 93 #[.int .i64 0] w fun e w' => e = .returned (.string tZero) ∧ w' = w := by
  have k := fun w => format0 w
  go_enter Tryz.func93, Tryz.ntmps93
  go_wp2_with (go_at_call 120; (with_reducible refine (k _).mono ?_); rintro e w' ⟨rfl, rfl⟩)
  go_ret
  exact ⟨rfl, rfl⟩
theorem itoa0 : Calls Tryz.prog 55 #[.int .i64 0] w fun e w' => e = .returned (.string tZero) ∧ w' = w := by
  have k := fun w => itoa0i w
  go_enter Tryz.func55, Tryz.ntmps55
  go_wp2_with (go_at_call 93; (with_reducible refine (k _).mono ?_); rintro e w' ⟨rfl, rfl⟩)
  go_ret
  exact ⟨rfl, rfl⟩
abbrev z64 : ByteArray := ⟨#[48, 48, 48, 48, 48, 48, 48, 48, 48, 48, 48, 48, 48, 48, 48, 48, 48, 48, 48, 48, 48, 48, 48, 48, 48, 48, 48, 48, 48, 48, 48, 48, 48, 48, 48, 48, 48, 48, 48, 48, 48, 48, 48, 48, 48, 48, 48, 48, 48, 48, 48, 48, 48, 48, 48, 48, 48, 48, 48, 48, 48, 48, 48, 48]⟩
theorem hasPrefixi (s : ByteArray) (hs : 1 ≤ s.size) (b : Bool) (hb : decide (s.extract 0 1 = tZero) = b) : Calls Tryz.prog 110 #[.string s, .string tZero] w fun e w' => e = .returned (.bool b) ∧ w' = w := by
  have h1 : (1 : Int) ≤ (s.size : Int) := by omega
  have e1 : (s.extract 0 1 = tZero) ↔ b = true := by rw [← hb]; simp
  cases b with
  | true =>
    have e2 := e1.2 rfl
    clear e1 hb
    go_enter Tryz.func110, Tryz.ntmps110
    go_wp2_with fail
    go_ret
    exact ⟨rfl, rfl⟩
  | false =>
    have e2 : ¬ s.extract 0 1 = tZero := fun h => by have := e1.1 h; cases this
    have e3 : ((s.extract 0 1).toList == tZero.toList) = false := by
      rw [Bool.eq_false_iff]
      intro h
      apply e2
      have h := eq_of_beq h
      rw [ByteArray.toList_eq, ByteArray.toList_eq] at h
      exact ByteArray.ext (Array.toList_inj.1 h)
    rw [show tZero.toList = [48] by rw [ByteArray.toList_eq]] at e3
    clear e1 hb
    go_enter Tryz.func110, Tryz.ntmps110
    go_wp2_with fail
    go_ret
    first | exact ⟨rfl, rfl⟩ | exact ⟨congrArg (fun b => Ending.returned (.bool b)) e3, rfl⟩
theorem hasPrefix (s : ByteArray) (hs : 1 ≤ s.size) (b : Bool) (hb : decide (s.extract 0 1 = tZero) = b) : Calls Tryz.prog 95 #[.string s, .string tZero] w fun e w' => e = .returned (.bool b) ∧ w' = w := by
  have k := fun w => hasPrefixi w s hs b hb
  go_enter Tryz.func95, Tryz.ntmps95
  go_wp2_with (go_at_call 110; (with_reducible refine (k _).mono ?_); rintro e w' ⟨rfl, rfl⟩)
  go_ret
  exact ⟨rfl, rfl⟩
theorem mul64_7 : Calls Tryz.prog 122 #[.int .u64 1, .int .u64 7] w fun e w' => e = .returned (.tuple #[.int .u64 0, .int .u64 7]) ∧ w' = w := by
  go_enter Tryz.func122, Tryz.ntmps122
  go_wp2_with fail
  go_ret2
  exact ⟨rfl, rfl⟩
theorem mul7 : Calls Tryz.prog 94 #[.int .u64 1, .int .u64 7] w fun e w' => e = .returned (.tuple #[.int .u64 0, .int .u64 7]) ∧ w' = w := by
  have k := fun w => mul64_7 w
  go_enter Tryz.func94, Tryz.ntmps94
  go_wp2_with (go_at_call 122; (with_reducible refine (k _).mono ?_); rintro e w' ⟨rfl, rfl⟩)
  go_ret2
  exact ⟨rfl, rfl⟩
theorem repeat7 : Calls Tryz.prog 56 #[.string tZero, .int .i64 7] w fun e w' => e = .returned (.string tSeven) ∧ w' = w := by
  have k := fun w => mul7 w
  have k2 := Lib.hid (fun w s hs b hb => hasPrefix w s hs b hb)
  have e0 : (tZero[0]'(by decide)).toNat = 48 := rfl
  have e1 : z64.extract 0 7 = tSeven := by decide
  go_enter Tryz.func56, Tryz.ntmps56
  go_wp2_with (first | (go_at_call 94; (with_reducible refine (k _).mono ?_); rintro e w' ⟨rfl, rfl⟩) | (go_at_call 95; go_loud (first | (with_reducible refine (k2.out _ _ (by decide) false (by decide)).mono ?_) | (with_reducible refine (k2.out _ _ (by decide) true (by decide)).mono ?_)); rintro e w' ⟨rfl, rfl⟩))
  go_ret
  exact ⟨rfl, rfl⟩
theorem len_any (n : Nat) (hn : n ≤ 1) : Calls Tryz.prog 109 #[.int .u64 (n : Int)] w fun e w' => (∃ v : Int, e = .returned (.int .i64 v)) ∧ w' = w := by
  have k := fun w => Octs.bits_Len64 (n : Int) w (by omega) (by omega)
  replace hn := Lib.hid hn
  go_enter Tryz.func109, Tryz.ntmps109
  go_wp2_with (go_at_call 104; (with_reducible refine (k _).mono ?_); rintro e w' ⟨rfl, rfl⟩)
  go_ret
  exact ⟨⟨_, rfl⟩, rfl⟩
theorem insertion1 (v : Value) (n : Nat) (hn : n ≤ 1) : Calls Tryz.prog 126 #[v, .int .i64 0, .int .i64 (n : Int)] w fun e w' => e = .returned (.tuple #[]) ∧ w' = w := by
  have h1 : ¬ (1 : Int) < (n : Int) := by omega
  go_enter Tryz.func126, Tryz.ntmps126
  go_wp2_with fail
  go_loopw [6] (fun i wr => i = .int .i64 1 ∧ wr = w) (fun _ _ => 0)
  case atStart => exact ⟨rfl, rfl⟩
  case round =>
    obtain ⟨rfl, rfl⟩ := hrel
    go_wp2_with fail
    go_end0
    exact ⟨rfl, rfl⟩
theorem pdqsort1 (v : Value) (n : Nat) (hn : n ≤ 1) (limit : Int) : Calls Tryz.prog 108 #[v, .int .i64 0, .int .i64 (n : Int), .int .i64 limit] w fun e w' => e = .returned (.tuple #[]) ∧ w' = w := by
  have k := Lib.hid (fun w => insertion1 w v n hn)
  have h1 : (n : Int) ≤ 12 := by omega
  go_enter Tryz.func108, Tryz.ntmps108
  go_wp2_with fail
  go_loopw [1, 2, 3] (fun a b i wr => a = .int .i64 0 ∧ b = .int .i64 (n : Int) ∧ i = .int .i64 limit ∧ wr = w) (fun _ _ _ _ => 0)
  case atStart => exact ⟨rfl, rfl, rfl, rfl⟩
  case round =>
    obtain ⟨rfl, rfl, rfl, rfl⟩ := hrel
    go_wp2_with (go_at_call 126; (with_reducible refine (k.out _).mono ?_); rintro e w' ⟨rfl, rfl⟩)
    exact bodyPost_ret (results_none rfl _ _ _) rfl ⟨rfl, rfl⟩
theorem sort1 (A : Option Addr) (n c : Nat) (hn : n ≤ 1) : Calls Tryz.prog 74 #[.slice A n c] w fun e w' => e = .returned (.tuple #[]) ∧ w' = w := by
  have k := Lib.hid (fun w limit => pdqsort1 w (.slice A n c) n hn limit)
  have k2 := Lib.hid (fun w => len_any w n hn)
  have h1 : IntKind.u64.wrap (n : Int) = (n : Int) := by
    rcases (by omega : n = 0 ∨ n = 1) with rfl | rfl <;> rfl
  go_enter Tryz.func74, Tryz.ntmps74
  go_wp2_with (first | (go_at_call 109; (with_reducible refine (k2.out _).mono ?_); rintro e w' ⟨⟨v, rfl⟩, rfl⟩) | (go_at_call 108; (with_reducible refine (k.out _ _).mono ?_); rintro e w' ⟨rfl, rfl⟩))
  go_end0
  exact ⟨rfl, rfl⟩
theorem atoi0i : Calls Tryz.prog 91 #[.string tEight] w fun e w' => e = .returned (.tuple #[.int .i64 0, Value.nilIface]) ∧ w.Plus w' := by
  obtain ⟨c, w1, hrun, hp, hlt, hc⟩ := conv_bytes tEight w
  have hc8 : ∀ k : Nat, k < 8 → w1.cell? ⟨w.heap.size, k, none⟩ = some (.int .u8 48) := fun k hk => by
    rw [hc k hk]
    rcases (by omega : k = 0 ∨ k = 1 ∨ k = 2 ∨ k = 3 ∨ k = 4 ∨ k = 5 ∨ k = 6 ∨ k = 7) with rfl | rfl | rfl | rfl | rfl | rfl | rfl | rfl <;> rfl
  rw [show tEight.size = 8 from rfl] at hrun
  have e0 : (tEight[0]'(by decide)).toNat = 48 := rfl
  have hp' := Lib.hid hp
  have hc8' := Lib.hid hc8
  clear hc hc8 hp
  generalize hB : w.heap.size = B at *
  go_enter Tryz.func91, Tryz.ntmps91
  go_wp2_with fail
  go_loopw [6, 49] (fun n i wr => ∃ k : Nat, k ≤ 8 ∧ n = .int .i64 0 ∧ i = .int .i64 (k : Int) ∧ wr = w1) (fun _ i _ => 8 - (intOf i).toNat)
  case atStart => exact ⟨0, by omega, rfl, rfl, rfl⟩
  case round =>
    obtain ⟨k, hk, rfl, rfl, rfl⟩ := hrel
    haveI : InW B wr := ⟨hlt⟩
    by_cases hlt8 : k < 8
    · have h8i : (k : Int) < 8 := by omega
      have c0 := hc8'.out k hlt8
      go_wp2_with fail
      go_roundw
      case rel => exact ⟨k + 1, by omega, rfl, by go_num, by first | rfl | trivial⟩
      case measure => simp [intOf]; omega
    · have h8i : ¬ (k : Int) < 8 := by omega
      go_wp2_with fail
      go_ret2
      exact ⟨rfl, hp'.out⟩
theorem atoi0 : Calls Tryz.prog 53 #[.string tEight] w fun e w' => e = .returned (.tuple #[.int .i64 0, Value.nilIface]) ∧ w.Plus w' := by
  have k := Lib.hid (fun w => atoi0i w)
  go_enter Tryz.func53, Tryz.ntmps53
  go_wp2_with (go_at_call 91; (with_reducible refine (k.out _).mono ?_); rintro e w' ⟨rfl, e0, rfl⟩)
  go_ret2
  exact ⟨rfl, by (repeat (first | exact Plus.refl _ | apply Plus.plus | apply Plus.alloc | apply Plus.drew))⟩
theorem hasPrefixLog : Calls Tryz.prog 110 #[.string nm, .string tLogDot] w fun e w' => e = .returned (.bool true) ∧ w' = w := by
  have e1 : nm.extract 0 4 = tLogDot := by decide
  go_enter Tryz.func110, Tryz.ntmps110
  go_wp2_with fail
  go_ret
  exact ⟨rfl, rfl⟩
theorem cutLogi : Calls Tryz.prog 83 #[.string nm, .string tLogDot] w fun e w' => e = .returned (.tuple #[.string tEight, .bool true]) ∧ w' = w := by
  have k := fun w => hasPrefixLog w
  have e1 : nm.extract 4 12 = tEight := by decide
  go_enter Tryz.func83, Tryz.ntmps83
  go_wp2_with (go_at_call 110; (with_reducible refine (k _).mono ?_); rintro e w' ⟨rfl, rfl⟩)
  go_ret2
  exact ⟨rfl, rfl⟩
theorem cutLog : Calls Tryz.prog 51 #[.string nm, .string tLogDot] w fun e w' => e = .returned (.tuple #[.string tEight, .bool true]) ∧ w' = w := by
  have k := fun w => cutLogi w
  go_enter Tryz.func51, Tryz.ntmps51
  go_wp2_with (go_at_call 83; (with_reducible refine (k _).mono ?_); rintro e w' ⟨rfl, rfl⟩)
  go_ret2
  exact ⟨rfl, rfl⟩
end
/-- the digits' set, as far as it is laid -/
def tabL (k : Nat) : List Value := (List.range 256).map fun i => .bool (decide (48 ≤ i ∧ i < 48 + k))
theorem tabL_len (k : Nat) : (tabL k).length = 256 := by simp [tabL]
theorem tabL_get (k i : Nat) (hi : i < 256) : (tabL k)[i]? = some (.bool (decide (48 ≤ i ∧ i < 48 + k))) := by
  unfold tabL
  rw [List.getElem?_map, List.getElem?_range hi]
  rfl
theorem tabL_set (k : Nat) (hk : k < 10) : (tabL k).set (48 + k) (.bool true) = tabL (k + 1) := by
  apply List.ext_getElem?
  intro i
  rw [List.getElem?_set]
  split
  · rename_i e
    subst e
    rw [tabL_get _ _ (by omega), if_pos (by rw [tabL_len]; omega)]
    simp
  · rename_i e
    by_cases hi : i < 256
    · rw [tabL_get _ _ hi, tabL_get _ _ hi]
      have : (48 ≤ i ∧ i < 48 + k) ↔ (48 ≤ i ∧ i < 48 + (k + 1)) := by omega
      simp only [this]
    · rw [List.getElem?_eq_none (by rw [tabL_len]; omega), List.getElem?_eq_none (by rw [tabL_len]; omega)]
theorem zeroSet (w : World) : (zeroValue 139).run Tryz.prog w = .ok (.agg (tabL 0).toArray) w := by kernel_rfl
theorem tabL_one (k : Nat) : (tabL k).all (·.oneCell') = true := by
  rw [List.all_eq_true]
  intro v hv
  unfold tabL at hv
  obtain ⟨i, -, rfl⟩ := List.mem_map.1 hv
  rfl
theorem setsL_get (vs : List Value) : ∀ (cs : List Value) (o i : Nat), o + vs.length ≤ cs.length → (setsL cs o vs)[i]? = if o ≤ i ∧ i < o + vs.length then vs[i - o]? else cs[i]? := by
  induction vs with
  | nil => intro cs o i _; simp [setsL]; omega
  | cons v r ih =>
    intro cs o i hl
    rw [List.length_cons] at hl
    show (setsL (cs.set o v) (o + 1) r)[i]? = _
    rw [ih _ _ _ (by rw [List.length_set]; omega), List.length_cons]
    by_cases h1 : o + 1 ≤ i ∧ i < o + 1 + r.length
    · rw [if_pos h1, if_pos (by omega), show i - o = (i - (o + 1)) + 1 by omega, List.getElem?_cons_succ]
    · rw [if_neg h1, List.getElem?_set]
      by_cases h2 : o = i
      · subst h2
        rw [if_pos rfl, if_pos (by omega), if_pos (by omega), Nat.sub_self]
        rfl
      · rw [if_neg h2, if_neg (by omega)]
theorem setsL_all (cs vs : List Value) (h : vs.length = cs.length) : setsL cs 0 vs = vs := by
  apply List.ext_getElem?
  intro i
  rw [setsL_get _ _ _ _ (by omega)]
  split
  · rfl
  · rw [List.getElem?_eq_none (by omega), List.getElem?_eq_none (by omega)]
abbrev tDigits : ByteArray := ⟨#[48, 49, 50, 51, 52, 53, 54, 55, 56, 57]⟩
section
variable {W wx : World} {l : List Asn}
set_option maxHeartbeats 2000000 in
theorem asciiSet_O (h : Own W wx l) : Calls Tryz.prog 86 #[.string tDigits] wx fun e w' => e = .returned (.tuple #[.agg (tabL 10).toArray, .bool true]) ∧ Own W w' l := by
  have O1 := h.newCells (tabL 0) 139
  have hz := zeroSet
  have hsz : (tabL 0).toArray.size = 256 := by rw [List.size_toArray, tabL_len]
  generalize hw1 : wx.alloc (.cells (tabL 0).toArray 139) = w1 at *
  generalize hR : wx.heap.size = R at *
  go_enter Tryz.func86, Tryz.ntmps86
  go_upto_region 1 with fail
  have hp := h.p
  clear hw1 hz hsz
  replace O1 := Lib.hid O1
  replace h := Lib.hid trivial
  go_wp2_with fail
  go_loopw [4] (fun i wr => ∃ k : Nat, k ≤ 10 ∧ i = .int .i64 (k : Int) ∧ Own W wr (cellsA R (tabL k) :: l)) (fun i _ => 10 - (intOf i).toNat)
  case atStart => exact ⟨0, by omega, rfl, O1.out⟩
  case round =>
    clear O1
    obtain ⟨k, hk, rfl, O⟩ := hrel
    by_cases hlt : k < 10
    · have hlti : (k : Int) < 10 := by omega
      have hcx : (tDigits[k]'hlt).toNat = 48 + k := by
        rcases (by omega : k = 0 ∨ k = 1 ∨ k = 2 ∨ k = 3 ∨ k = 4 ∨ k = 5 ∨ k = 6 ∨ k = 7 ∨ k = 8 ∨ k = 9) with rfl | rfl | rfl | rfl | rfl | rfl | rfl | rfl | rfl | rfl <;> rfl
      obtain ⟨lR, qR, fR⟩ := O.cells 0 rfl
      have r0 := (qR (48 + k) (by rw [tabL_len]; omega)).trans (tabL_get k (48 + k) (by omega))
      have f0 := fR (48 + k)
      have h128 : ¬ (128 : Int) ≤ 48 + (k : Int) := by omega
      have h256 : 48 + (k : Int) < 256 := by omega
      have hnn : (0 : Int) ≤ 48 + (k : Int) := by omega
      haveI : InW R wr := ⟨lR⟩
      have O2 := O.setCellAt 0 (48 + k) (.bool true) rfl (by rw [tabL_len]; omega)
      simp only [List.set_cons_zero] at O2
      rw [tabL_set k hlt] at O2
      replace O2 := Lib.hid O2
      clear O qR fR
      go_wp2_with fail
      go_roundw
      case rel => exact ⟨k + 1, by omega, by go_num, O2.out⟩
      case measure => simp [intOf]; omega
    · have hk10 : k = 10 := by omega
      rw [hk10] at O
      have hlti : ¬ (k : Int) < 10 := by omega
      have O' := Lib.hid O
      have hpw := O.p
      clear O hk10
      have hu : Tryz.prog.underlying 139 = some (.array 256 4) := by kernel_rfl
      have hzz : (Tryz.prog.info? 139).map (·.size) = some (tabL 10).length := by rw [tabL_len]; kernel_rfl
      replace hu := Lib.hid hu
      replace hzz := Lib.hid hzz
      go_wp2_with (first
        | (refine wpList_load_O 139 _ rfl rfl 0 0 (tabL 10) O'.out rfl rfl (by simp) (by simp) hu.out rfl hzz.out ?_)
        | (refine wpList_store_O 139 _ _ rfl rfl rfl 0 0 (tabL 10) (tabL 10) O'.out rfl rfl rfl (by simp) (setsL_all _ _ rfl) hzz.out (tabL_one 10) ?_; intro w5 O5))
      exact bodyPost_ret (results_O2 (fn := Tryz.f86) (p := 2) (q := 3) rfl _ 0 O5 rfl rfl hu.out rfl hzz.out) rfl ⟨rfl, O5.drop⟩
theorem contains48 (w : World) (B : Nat) (hB : B < w.heap.size) (hc : w.cell? ⟨B, 48, none⟩ = some (.bool true)) : Calls Tryz.prog 111 #[.pointer (some ⟨B, 0, none⟩), .int .u8 48] w fun e w' => e = .returned (.bool true) ∧ w.Plus w' := by
  haveI : InW B w := ⟨hB⟩
  go_enter Tryz.func111, Tryz.ntmps111
  go_wp2_with fail
  go_ret
  exact ⟨rfl, by (repeat (first | exact Plus.refl _ | apply Plus.plus | apply Plus.alloc | apply Plus.drew))⟩
def zs (k : Nat) : ByteArray := ⟨(List.replicate k 48).toArray⟩
def strLen : Value → Nat
  | .string s => s.size
  | _ => 0
set_option maxHeartbeats 2000000 in
theorem trimRight8 (w : World) (B : Nat) (hB : B < w.heap.size) (hc : w.cell? ⟨B, 48, none⟩ = some (.bool true)) : Calls Tryz.prog 88 #[.string tEight, .pointer (some ⟨B, 0, none⟩)] w fun e w' => e = .returned (.string ⟨#[]⟩) ∧ w.Plus w' := by
  have kC := Lib.hid (fun (wz : World) (p : w.Plus wz) => contains48 wz B (Nat.lt_of_lt_of_le hB (Chg.of_Plus p (fun _ => False)).size) (((Chg.of_Plus p (fun _ => False)).cell hB (fun h => h)).trans hc))
  clear hB hc
  go_enter Tryz.func88, Tryz.ntmps88
  go_wp2_with fail
  go_loopw [0] (fun v wr => ∃ k : Nat, k ≤ 8 ∧ v = .string (zs k) ∧ w.Plus wr) (fun v _ => strLen v)
  case atStart => exact ⟨8, by omega, rfl, Plus.refl w⟩
  case round =>
    obtain ⟨k, hk, rfl, e, rfl⟩ := hrel
    rcases (by omega : k = 0 ∨ k = 1 ∨ k = 2 ∨ k = 3 ∨ k = 4 ∨ k = 5 ∨ k = 6 ∨ k = 7 ∨ k = 8) with rfl | rfl | rfl | rfl | rfl | rfl | rfl | rfl | rfl
    · rw [show zs 0 = ⟨#[]⟩ from rfl]
      go_wp2_with fail
      go_ret
      exact ⟨rfl, by (repeat (first | exact Plus.refl _ | apply Plus.plus | apply Plus.alloc | apply Plus.drew))⟩
    · rw [show zs 1 = ⟨#[48]⟩ from rfl]
      have e1 : ((⟨#[48]⟩ : ByteArray)[0]'(by decide)).toNat = 48 := rfl
      have e2 : (⟨#[48]⟩ : ByteArray).extract 0 0 = ⟨#[]⟩ := by decide
      go_wp2_with (go_at_call 111; (with_reducible refine (kC.out _ (by (repeat (first | exact Plus.refl _ | apply Plus.plus | apply Plus.alloc | apply Plus.drew)))).mono ?_); rintro e w' ⟨rfl, e0, rfl⟩)
      go_roundw
      case rel => exact ⟨0, by omega, rfl, by (repeat (first | exact Plus.refl _ | apply Plus.plus | apply Plus.alloc | apply Plus.drew))⟩
      case measure => simp only [strLen]; decide

    · rw [show zs 2 = ⟨#[48, 48]⟩ from rfl]
      have e1 : ((⟨#[48, 48]⟩ : ByteArray)[1]'(by decide)).toNat = 48 := rfl
      have e2 : (⟨#[48, 48]⟩ : ByteArray).extract 0 1 = ⟨#[48]⟩ := by decide
      go_wp2_with (go_at_call 111; (with_reducible refine (kC.out _ (by (repeat (first | exact Plus.refl _ | apply Plus.plus | apply Plus.alloc | apply Plus.drew)))).mono ?_); rintro e w' ⟨rfl, e0, rfl⟩)
      go_roundw
      case rel => exact ⟨1, by omega, rfl, by (repeat (first | exact Plus.refl _ | apply Plus.plus | apply Plus.alloc | apply Plus.drew))⟩
      case measure => simp only [strLen]; decide

    · rw [show zs 3 = ⟨#[48, 48, 48]⟩ from rfl]
      have e1 : ((⟨#[48, 48, 48]⟩ : ByteArray)[2]'(by decide)).toNat = 48 := rfl
      have e2 : (⟨#[48, 48, 48]⟩ : ByteArray).extract 0 2 = ⟨#[48, 48]⟩ := by decide
      go_wp2_with (go_at_call 111; (with_reducible refine (kC.out _ (by (repeat (first | exact Plus.refl _ | apply Plus.plus | apply Plus.alloc | apply Plus.drew)))).mono ?_); rintro e w' ⟨rfl, e0, rfl⟩)
      go_roundw
      case rel => exact ⟨2, by omega, rfl, by (repeat (first | exact Plus.refl _ | apply Plus.plus | apply Plus.alloc | apply Plus.drew))⟩
      case measure => simp only [strLen]; decide

    · rw [show zs 4 = ⟨#[48, 48, 48, 48]⟩ from rfl]
      have e1 : ((⟨#[48, 48, 48, 48]⟩ : ByteArray)[3]'(by decide)).toNat = 48 := rfl
      have e2 : (⟨#[48, 48, 48, 48]⟩ : ByteArray).extract 0 3 = ⟨#[48, 48, 48]⟩ := by decide
      go_wp2_with (go_at_call 111; (with_reducible refine (kC.out _ (by (repeat (first | exact Plus.refl _ | apply Plus.plus | apply Plus.alloc | apply Plus.drew)))).mono ?_); rintro e w' ⟨rfl, e0, rfl⟩)
      go_roundw
      case rel => exact ⟨3, by omega, rfl, by (repeat (first | exact Plus.refl _ | apply Plus.plus | apply Plus.alloc | apply Plus.drew))⟩
      case measure => simp only [strLen]; decide

    · rw [show zs 5 = ⟨#[48, 48, 48, 48, 48]⟩ from rfl]
      have e1 : ((⟨#[48, 48, 48, 48, 48]⟩ : ByteArray)[4]'(by decide)).toNat = 48 := rfl
      have e2 : (⟨#[48, 48, 48, 48, 48]⟩ : ByteArray).extract 0 4 = ⟨#[48, 48, 48, 48]⟩ := by decide
      go_wp2_with (go_at_call 111; (with_reducible refine (kC.out _ (by (repeat (first | exact Plus.refl _ | apply Plus.plus | apply Plus.alloc | apply Plus.drew)))).mono ?_); rintro e w' ⟨rfl, e0, rfl⟩)
      go_roundw
      case rel => exact ⟨4, by omega, rfl, by (repeat (first | exact Plus.refl _ | apply Plus.plus | apply Plus.alloc | apply Plus.drew))⟩
      case measure => simp only [strLen]; decide

    · rw [show zs 6 = ⟨#[48, 48, 48, 48, 48, 48]⟩ from rfl]
      have e1 : ((⟨#[48, 48, 48, 48, 48, 48]⟩ : ByteArray)[5]'(by decide)).toNat = 48 := rfl
      have e2 : (⟨#[48, 48, 48, 48, 48, 48]⟩ : ByteArray).extract 0 5 = ⟨#[48, 48, 48, 48, 48]⟩ := by decide
      go_wp2_with (go_at_call 111; (with_reducible refine (kC.out _ (by (repeat (first | exact Plus.refl _ | apply Plus.plus | apply Plus.alloc | apply Plus.drew)))).mono ?_); rintro e w' ⟨rfl, e0, rfl⟩)
      go_roundw
      case rel => exact ⟨5, by omega, rfl, by (repeat (first | exact Plus.refl _ | apply Plus.plus | apply Plus.alloc | apply Plus.drew))⟩
      case measure => simp only [strLen]; decide

    · rw [show zs 7 = ⟨#[48, 48, 48, 48, 48, 48, 48]⟩ from rfl]
      have e1 : ((⟨#[48, 48, 48, 48, 48, 48, 48]⟩ : ByteArray)[6]'(by decide)).toNat = 48 := rfl
      have e2 : (⟨#[48, 48, 48, 48, 48, 48, 48]⟩ : ByteArray).extract 0 6 = ⟨#[48, 48, 48, 48, 48, 48]⟩ := by decide
      go_wp2_with (go_at_call 111; (with_reducible refine (kC.out _ (by (repeat (first | exact Plus.refl _ | apply Plus.plus | apply Plus.alloc | apply Plus.drew)))).mono ?_); rintro e w' ⟨rfl, e0, rfl⟩)
      go_roundw
      case rel => exact ⟨6, by omega, rfl, by (repeat (first | exact Plus.refl _ | apply Plus.plus | apply Plus.alloc | apply Plus.drew))⟩
      case measure => simp only [strLen]; decide

    · rw [show zs 8 = ⟨#[48, 48, 48, 48, 48, 48, 48, 48]⟩ from rfl]
      have e1 : ((⟨#[48, 48, 48, 48, 48, 48, 48, 48]⟩ : ByteArray)[7]'(by decide)).toNat = 48 := rfl
      have e2 : (⟨#[48, 48, 48, 48, 48, 48, 48, 48]⟩ : ByteArray).extract 0 7 = ⟨#[48, 48, 48, 48, 48, 48, 48]⟩ := by decide
      go_wp2_with (go_at_call 111; (with_reducible refine (kC.out _ (by (repeat (first | exact Plus.refl _ | apply Plus.plus | apply Plus.alloc | apply Plus.drew)))).mono ?_); rintro e w' ⟨rfl, e0, rfl⟩)
      go_roundw
      case rel => exact ⟨7, by omega, rfl, by (repeat (first | exact Plus.refl _ | apply Plus.plus | apply Plus.alloc | apply Plus.drew))⟩
      case measure => simp only [strLen]; decide

theorem trimLeft0 (w : World) (v : Value) : Calls Tryz.prog 87 #[.string ⟨#[]⟩, v] w fun e w' => e = .returned (.string ⟨#[]⟩) ∧ w.Plus w' := by
  go_enter Tryz.func87, Tryz.ntmps87
  go_wp2_with fail
  go_loopw [0] (fun v wr => v = .string ⟨#[]⟩ ∧ wr = w) (fun _ _ => 0)
  case atStart => exact ⟨rfl, rfl⟩
  case round =>
    obtain ⟨rfl, rfl⟩ := hrel
    go_wp2_with fail
    go_ret
    exact ⟨rfl, by (repeat (first | exact Plus.refl _ | apply Plus.plus | apply Plus.alloc | apply Plus.drew))⟩
set_option maxHeartbeats 2000000 in
theorem trim8 (h : Own W wx l) : Calls Tryz.prog 52 #[.string tEight, .string tDigits] wx fun e w' => e = .returned (.string ⟨#[]⟩) ∧ Own W w' l := by
  have kA := Lib.hid (asciiSet_O h)
  have hz := zeroSet
  have hsz : (tabL 0).toArray.size = 256 := by rw [List.size_toArray, tabL_len]
  clear h
  go_enter Tryz.func52, Tryz.ntmps52
  go_upto_region 6 with (first | (go_at_call 86; (with_reducible refine kA.out.mono ?_); rintro e w1 ⟨rfl, O1⟩; have O2 := Lib.hid (O1.newCells (tabL 0) 139); clear O1) | (refine wpList_store_O 139 _ _ rfl rfl rfl 0 0 (tabL 10) (tabL 10) O2.out rfl rfl rfl (by rw [tabL_len, tabL_len]; omega) (setsL_all _ _ (by rw [tabL_len, tabL_len])) (by rw [tabL_len]; kernel_rfl) (tabL_one 10) ?_; intro w5 O5))
  dsimp only [List.set_cons_zero] at O5
  obtain ⟨lB, qB, -⟩ := O5.cells 0 rfl
  generalize w1.heap.size = B at *
  have c48 := (qB 48 (by rw [tabL_len]; omega)).trans (tabL_get 10 48 (by omega))
  rw [show decide (48 ≤ 48 ∧ 48 < 48 + 10) = true from rfl] at c48
  have kR := Lib.hid (trimRight8 w5 B lB c48)
  have kL := Lib.hid (fun w => trimLeft0 w (.pointer (some ⟨B, 0, none⟩)))
  replace O5 := Lib.hid O5
  clear kA hz hsz O2 qB c48 lB
  go_wp2_with (first | (go_at_call 88; (with_reducible refine kR.out.mono ?_); rintro e w' ⟨rfl, e0, rfl⟩) | (go_at_call 87; (with_reducible refine (kL.out _).mono ?_); rintro e w' ⟨rfl, e1, rfl⟩))
  go_ret
  exact ⟨rfl, (O5.out.plus e0 |>.plus e1).drop⟩
end
end Go.Proofs.YtpdlgflbcgemnaaGreatDoor
-- Disk2
/- disk: Sync, Truncate; Files and Crash of a disk that has one file at the most: walks. -/
set_option linter.unusedSimpArgs false
set_option linter.unusedVariables false
set_option maxRecDepth 100000
namespace Go.Proofs.YtpdlgflbcgemnaaGreatDoor
open Go.RowKit
section
variable {W wx : World} {l : List Asn} {D : Nat} {d : Dk}
set_option maxHeartbeats 1000000 in
theorem diskSync_O (h : Own W wx (diskA D d :: l)) (hd : d.dead = false) (a : ByteArray) (ha : okS a) (f : Fl) (hf : d.F a = some f) :
    Calls Tryz.prog 24 #[ptV D, .string a] wx (OwnTo W (.int .i64 0) (diskA D { d with F := putF d.F a ⟨f.s, f.s.size⟩ } :: l)) := by
  have kO := diskOpen_O h hd a ha
  rw [hf] at kO
  simp only [Option.getD_some, Option.isSome_some, if_true] at kO
  replace kO := Lib.hid kO
  replace h := Lib.hid h
  replace hf := Lib.hid hf
  go_enter Tryz.func24, Tryz.ntmps24
  go_upto_region 2 with (go_at_call 54; (with_reducible refine kO.out.mono ?_); rintro e w' ⟨rfl, e0, rfl⟩)
  clear kO
  have O := ((h.out.plus e0).newCells [.string f.s, .int .i64 (f.sure : Int)] 86)
  clear h
  rw [World.size_plus_eq] at O
  generalize wx.heap.size + e0.objs.size = B at *
  generalize hw2 : (wx.plus e0).alloc _ = w2 at *
  clear hw2 e0
  obtain ⟨lB, qB, fB⟩ := O.cells 0 rfl
  have b0 := qB 0 (by simp)
  have b1 := qB 1 (by simp)
  have fb1 := fB 1
  simp only [List.getElem?_cons_succ, List.getElem?_cons_zero] at b0 b1
  haveI : InW B w2 := ⟨lB⟩
  clear qB fB lB
  replace O := Lib.hid O
  go_upto_region 4 with fail
  replace O := (O.out.setCellAt 0 1 (.int .i64 (f.s.size : Int)) rfl (by simp)).rot1
  simp only [List.set_cons_succ, List.set_cons_zero] at O
  clear b0 b1 fb1
  generalize World.setCell _ _ _ = w3 at *
  obtain ⟨M, lD, c0, -, -, -, -, -, O2⟩ := disk_at O
  simp only [diskL, List.cons_append, List.nil_append] at O2
  clear O
  obtain ⟨lB, qB, -⟩ := O2.cells 2 rfl
  have b0 := qB 0 (by simp)
  have b1 := qB 1 (by simp)
  simp only [List.getElem?_cons_succ, List.getElem?_cons_zero] at b0 b1
  haveI : InW D w3 := ⟨lD⟩
  haveI : InW B w3 := ⟨lB⟩
  clear qB lB lD
  replace O2 := Lib.hid O2
  refine wp_region_grow_tail 6 (by kernel_rfl) (by kernel_rfl) ?_
  simp only [List.take_succ_cons, List.take_zero, List.drop_succ_cons, List.drop_zero]
  repeat (go_big_quiet_step (fail))
  refine wpQuiet_nil ?_
  intro ex
  have OM := Lib.hid ((O2.out.plus ex).pull 1 rfl)
  clear O2 b0 b1 c0
  go_wp2_with (first | (at_mapUpdate; refine wpList_mapUpdate_O dmapTy rfl _ _ _ rfl OM.out a ⟨f.s, f.s.size⟩ ha rfl rfl rfl ?_; intro w4 O4))
  go_ret
  rw [hf.out] at O4
  exact ⟨rfl, Own.mk (fun M : Nat => diskL D _ M) M (O4.rot1.pull 2 rfl).drop⟩
set_option maxHeartbeats 1000000 in
theorem diskTruncate_O (h : Own W wx (diskA D d :: l)) (hd : d.dead = false) (a : ByteArray) (ha : okS a) (f : Fl) (hf : d.F a = some f) (n : Nat) (hn : n ≤ f.s.size) :
    Calls Tryz.prog 21 #[ptV D, .string a, .int .i64 (n : Int)] wx (OwnTo W (.int .i64 0) (diskA D { d with F := putF d.F a ⟨f.s.extract 0 n, min f.sure n⟩ } :: l)) := by
  have kO := diskOpen_O h hd a ha
  rw [hf] at kO
  simp only [Option.getD_some, Option.isSome_some, if_true] at kO
  replace kO := Lib.hid kO
  replace h := Lib.hid h
  replace hf := Lib.hid hf
  have g1 : (n : Int) ≤ (f.s.size : Int) := by omega
  have g2 : min (f.sure : Int) (n : Int) = ((min f.sure n : Nat) : Int) := by omega
  have g3 : ¬ (f.s.size : Int) < (n : Int) := by omega
  have g4 : ¬ (n : Int) < 0 := by omega
  generalize min f.sure n = mk at *
  go_enter Tryz.func21, Tryz.ntmps21
  go_upto_region 2 with (go_at_call 54; (with_reducible refine kO.out.mono ?_); rintro e w' ⟨rfl, e0, rfl⟩)
  clear kO
  have O := ((h.out.plus e0).newCells [.string f.s, .int .i64 (f.sure : Int)] 86).rot1
  clear h
  rw [World.size_plus_eq] at O
  generalize wx.heap.size + e0.objs.size = B at *
  generalize hw2 : (wx.plus e0).alloc _ = w2 at *
  clear hw2 e0
  obtain ⟨M, lD, c0, -, -, -, -, -, O2⟩ := disk_at O
  simp only [diskL, List.cons_append, List.nil_append] at O2
  clear O
  obtain ⟨lB, qB, -⟩ := O2.cells 2 rfl
  have b0 := qB 0 (by simp)
  have b1 := qB 1 (by simp)
  simp only [List.getElem?_cons_succ, List.getElem?_cons_zero] at b0 b1
  haveI : InW D w2 := ⟨lD⟩
  haveI : InW B w2 := ⟨lB⟩
  clear qB lB lD
  replace O2 := Lib.hid O2
  go_upto_region 6 with fail
  refine wp_region_grow_tail 14 (by kernel_rfl) (by kernel_rfl) ?_
  simp only [List.take_succ_cons, List.take_zero, List.drop_succ_cons, List.drop_zero]
  repeat (go_big_quiet_step (fail))
  refine wpQuiet_nil ?_
  intro ex
  have OM := Lib.hid ((O2.out.plus ex).pull 1 rfl)
  clear O2 b0 b1 c0
  go_wp2_with (first | (at_mapUpdate; refine wpList_mapUpdate_O dmapTy rfl _ _ _ rfl OM.out a ⟨f.s.extract 0 n, mk⟩ ha rfl rfl rfl ?_; intro w4 O4))
  go_ret
  rw [hf.out] at O4
  exact ⟨rfl, Own.mk (fun M : Nat => diskL D _ M) M (O4.rot1.pull 2 rfl).drop⟩
end
end Go.Proofs.YtpdlgflbcgemnaaGreatDoor
-- Files
/- disk: Files and Crash of a disk that has one file at the most: laws of the range, walks. -/
set_option linter.unusedSimpArgs false
set_option linter.unusedVariables false
set_option maxRecDepth 100000
namespace Go
open Go.RowKit Go.ChangeMaps Go.MapKept
section
variable {W wx : World} {l : List Asn} {n : Nat} {o : Obj}
theorem Own.setRaw (h : Own W wx (rawA n o :: l)) (o' : Obj) : Own W (setBlock wx n o') (rawA n o' :: l) :=
  Own.step (A := fun _ => False) h fun A ⟨h1, h2⟩ => by
    have hlt := (Array.getElem?_eq_some_iff.1 h2).1
    exact ⟨A, (Chg.of_setBlock o').mono fun k hk => (h1 k).2 hk, ⟨h1, by simp [setBlock, hlt]⟩, fun k a => .inl a⟩
variable {α β : Type} [DecidableEq α] {ok : α → Prop} {enc : α → Value} {encv : β → Value} {F : α → Option β} {M m : Nat}
theorem Own.toRaw (h : Own W wx (mapA enc encv ok M m F :: l)) : ∃ o, wx.heap[M]? = some o ∧ (∀ w', w'.heap[M]? = some o → MapAt enc encv ok w' M m F) ∧ Own W wx (rawA M o :: l) := by
  have hm := h.map 0 rfl
  obtain ⟨es, clock, L, hb, hr⟩ := hm
  refine ⟨_, hb, fun w' h' => ⟨es, clock, L, h', hr⟩, Own.step (A := fun _ => False) (P' := rawA M (.map es clock)) h fun A hA => ⟨A, Chg.refl _ _, ⟨hA.1, hb⟩, fun k a => .inl a⟩⟩
theorem Own.ofRaw (h : Own W wx (rawA M o :: l)) (hm : ∀ w', w'.heap[M]? = some o → MapAt enc encv ok w' M m F) : Own W wx (mapA enc encv ok M m F :: l) :=
  Own.step (A := fun _ => False) (P' := mapA enc encv ok M m F) h fun A hA => ⟨A, Chg.refl _ _, ⟨hA.1, hm _ hA.2⟩, fun k a => .inl a⟩
end
section
variable {P : Program} {w : World} {I M : Nat} {e : MapEntry} {clock : Nat}
theorem next_first (hI : w.heap[I]? = some (.mapIter (some M) clock #[] clock)) (hM : w.heap[M]? = some (.map #[e] clock)) (he : e.born < clock) (ty : TypeId) :
    (Instr.next (.pointer (some ⟨I, 0, none⟩)) false ty).run P w = .ok (.tuple #[.bool true, e.key, e.val]) (setBlock w I (.mapIter (some M) clock #[e.born] clock)) := by
  have h1 : ¬ e.born ≥ clock := by omega
  simp [Instr.next, getObj, Sem.run_bind, Sem.run, hI, hM, Result.andThen, choose, Question.forced, h1, he, setObj, setBlock]
theorem next_last (hI : w.heap[I]? = some (.mapIter (some M) clock #[e.born] clock)) (hM : w.heap[M]? = some (.map #[e] clock)) (he : e.born < clock) (ty : TypeId) :
    (Instr.next (.pointer (some ⟨I, 0, none⟩)) false ty).run P w = .ok (.tuple #[.bool false]) w := by
  have h1 : ¬ e.born ≥ clock := by omega
  simp [Instr.next, getObj, Sem.run_bind, Sem.run, hI, hM, Result.andThen, choose, Question.forced, h1, he, setObj, setBlock]
theorem next_none (hI : w.heap[I]? = some (.mapIter (some M) clock #[] clock)) (hM : w.heap[M]? = some (.map #[] clock)) (ty : TypeId) :
    (Instr.next (.pointer (some ⟨I, 0, none⟩)) false ty).run P w = .ok (.tuple #[.bool false]) w := by
  simp [Instr.next, getObj, Sem.run_bind, Sem.run, hI, hM, Result.andThen, choose, Question.forced, setObj, setBlock]
theorem entry_one (hI : w.heap[I]? = some (.mapIter (some M) clock #[e.born] clock)) (hM : w.heap[M]? = some (.map #[e] clock)) :
    (Instr.entry (.pointer (some ⟨I, 0, none⟩))).run P w = .ok (.tuple #[e.key, e.val]) w := by
  simp [Instr.entry, getObj, Sem.run_bind, Sem.run, hI, hM, Result.andThen]
end
end Go
namespace Go.Proofs.YtpdlgflbcgemnaaGreatDoor
open Go.RowKit Go.ChangeMaps
theorem MapAt_zero {w : World} {M n : Nat} {F : ByteArray → Option Fl} (h : MapAt Value.string Fl.v okS w M n F) (hn : n = 0) : ∃ clock, w.heap[M]? = some (.map #[] clock) := by
  obtain ⟨es, clock, L, hb, hL, -, -, hl, -⟩ := h
  have hl0 : L = [] := List.eq_nil_of_length_eq_zero (by omega)
  subst hl0
  have : es = #[] := by
    have h1 := congrArg List.length hL
    rw [List.length_map] at h1
    exact Array.eq_empty_of_size_eq_zero (by simpa using h1)
  subst this
  exact ⟨clock, hb⟩
theorem fsrc (w : World) (B : Nat) (s : ByteArray) (h0 : w.cell? ⟨B, 0, none⟩ = some (.string s)) : Src Tryz.prog 1 26 (.slice (some ⟨B, 0, none⟩) 1 1) 1 [.string s] w :=
  Src.ofCells (e := 9) (by kernel_rfl) w [.string s] rfl (fun j hj => by
    match j, hj with
    | 0, _ => exact h0) (fun u hu => by simp at hu; subst hu; rfl) 1
def lenOf : Value → Nat
  | .slice _ n _ => n
  | _ => 0
section
variable {W wx : World} {l : List Asn} {D : Nat} {d : Dk}
set_option maxHeartbeats 2000000 in
theorem files0_O (h : Own W wx (diskA D d :: l)) (hn : d.n = 0) : Calls Tryz.prog 38 #[ptV D] wx fun e w' => e = .returned (.slice none 0 0) ∧ Own W w' (diskA D d :: l) := by
  obtain ⟨M, lD, c0, -, -, -, -, -, O⟩ := disk_at h
  simp only [diskL, List.cons_append, List.nil_append] at O
  obtain ⟨clock, hM⟩ := MapAt_zero (O.map 1 rfl) hn
  have hr := run_range_map (P := Tryz.prog) wx 46 9 86 M #[] clock (by kernel_rfl) hM
  haveI : InW D wx := ⟨lD⟩
  have hMl := (Array.getElem?_eq_some_iff.1 hM).1
  have O1 := O.newRaw (.mapIter (some M) clock #[] clock)
  have hM1 : (wx.alloc (.mapIter (some M) clock #[] clock)).heap[M]? = some (.map #[] clock) := (Chg.of_alloc wx _ (fun _ => False)).block M hMl (fun h => h) |>.trans hM
  have hnx := fun ty => next_none (P := Tryz.prog) (I := wx.heap.size) (O1.raw) hM1 ty
  have kS := Lib.hid (fun w => sort1 w none 0 0 (by omega))
  replace O1 := Lib.hid O1
  clear h O lD hM hMl hM1
  go_enter Tryz.func38, Tryz.ntmps38
  go_wp2_with fail
  generalize wx.heap.size = I at *
  generalize wx.alloc (.mapIter (some M) clock #[] clock) = w1 at *
  go_loopw [3] (fun v wr => v = .slice none 0 0 ∧ wr = w1) (fun _ _ => 0)
  case atStart => exact ⟨rfl, rfl⟩
  case round =>
    obtain ⟨rfl, rfl⟩ := hrel
    go_wp2_with (go_at_call 74; (with_reducible refine (kS.out _).mono ?_); rintro e w' ⟨rfl, rfl⟩)
    go_ret
    exact ⟨rfl, Own.mk (fun M : Nat => diskL D _ M) M O1.out.drop⟩
set_option maxHeartbeats 2000000 in
theorem files1_O (h : Own W wx (diskA D d :: l)) (hn : d.n = 1) (f : Fl) (hf : d.F nm = some f) : Calls Tryz.prog 38 #[ptV D] wx fun e w' => ∃ A c, e = .returned (.slice A 1 c) ∧ Own W w' (diskA D d :: slA 1 (.slice A 1 c) 1 [.string nm] :: l) := by
  obtain ⟨M, lD, c0, -, -, -, -, -, O⟩ := disk_at h
  simp only [diskL, List.cons_append, List.nil_append] at O
  obtain ⟨e, clock, hM, hek, hev, heb⟩ := MapAt.one (O.map 1 rfl) hn hf
  obtain ⟨o, ho, hmap, O1⟩ := Own.toRaw O.rot1
  rw [hM] at ho
  obtain rfl : .map #[e] clock = o := by simpa using ho
  clear ho h O
  have hr := run_range_map (P := Tryz.prog) wx 46 9 86 M #[e] clock (by kernel_rfl) hM
  haveI : InW D wx := ⟨lD⟩
  have O2 := O1.newRaw (.mapIter (some M) clock #[] clock)
  have kS := Lib.hid (fun w A c => sort1 w A 1 c (by omega))
  replace O2 := Lib.hid O2
  replace hmap := Lib.hid hmap
  clear O1 hM lD
  go_enter Tryz.func38, Tryz.ntmps38
  go_wp2_with fail
  generalize wx.heap.size = I at *
  generalize wx.alloc (.mapIter (some M) clock #[] clock) = w1 at *
  go_loopw [3] (fun v wr => (v = .slice none 0 0 ∧ Own W wr (rawA I (.mapIter (some M) clock #[] clock) :: rawA M (.map #[e] clock) :: cellsA D [.map (some M), .int .i64 (d.room : Int), .bool d.dead] :: l)) ∨ ∃ A c, v = .slice A 1 c ∧ Own W wr (rawA I (.mapIter (some M) clock #[e.born] clock) :: rawA M (.map #[e] clock) :: cellsA D [.map (some M), .int .i64 (d.room : Int), .bool d.dead] :: slA 1 (.slice A 1 c) 1 [.string nm] :: l)) (fun v _ => 1 - lenOf v)
  case atStart => exact .inl ⟨rfl, O2.out⟩
  case round =>
    clear O2 hr c0
    rcases hrel with ⟨rfl, O⟩ | ⟨A, c, rfl, O⟩
    · have hnx := fun ty => next_first (P := Tryz.prog) O.raw O.rot1.raw heb ty
      have O3 := O.setRaw (.mapIter (some M) clock #[e.born] clock)
      have hen := entry_one (P := Tryz.prog) O3.raw O3.rot1.raw
      rw [hek, hev] at hnx hen
      have O4 := Own.nilSl (O3.alloc (.cells #[.string nm] 9)) 1
      replace O4 := Lib.hid O4
      clear O O3
      generalize setBlock wr I _ = w2 at *
      go_wp2_with (at_builtin; refine wpList_append_O rfl _ _ 26 26 rfl 9 Tryz.t9 (.string ⟨#[]⟩) 1 16 (by kernel_rfl) (by kernel_rfl) (by kernel_rfl) (by kernel_rfl) (by kernel_rfl) rfl rfl O4.out rfl (fsrc _ _ nm (by simp [go_sem])) (by unfold maxLen; omega) (by omega) ?_; intro A2 c2 w6 O6)
      go_roundw
      case rel => exact .inr ⟨A2, c2, rfl, ((O6.pull 3 rfl).pull 3 rfl).pull 3 rfl⟩
      case measure => simp [lenOf]
    · have hnx := fun ty => next_last (P := Tryz.prog) O.raw O.rot1.raw heb ty
      replace O := Lib.hid O
      go_wp2_with (go_at_call 74; (with_reducible refine (kS.out _ _ _).mono ?_); rintro e w' ⟨rfl, rfl⟩)
      go_ret
      have O5 := Own.ofRaw O.out.drop hmap.out
      exact ⟨A, c, rfl, Own.mk (fun M : Nat => diskL D _ M) M O5.rot1⟩
end
end Go.Proofs.YtpdlgflbcgemnaaGreatDoor
-- Crash
/- disk: Crash of a disk that has one file: walk. -/
set_option linter.unusedSimpArgs false
set_option linter.unusedVariables false
set_option maxRecDepth 100000
namespace Go.Proofs.YtpdlgflbcgemnaaGreatDoor
open Go.RowKit
/-- how many of the bytes that are not sure a crash keeps -/
def crK (f : Fl) (keep : Int) : Nat := (max 0 (min keep ((f.s.size : Int) - f.sure))).toNat
section
variable {W wx : World} {l : List Asn} {D : Nat} {d : Dk}
set_option maxHeartbeats 2000000 in
theorem diskCrash_O (h : Own W wx (diskA D d :: l)) (hn : d.n = 1) (f : Fl) (hf : d.F nm = some f) (hs : f.sure ≤ f.s.size) (hs2 : f.s.size ≤ 4194304) (keep : Int) :
    Calls Tryz.prog 12 #[ptV D, .int .i64 keep] wx (OwnTo W (.tuple #[]) (diskA D ⟨1, putF d.F nm ⟨f.s.extract 0 (f.sure + crK f keep), f.sure + crK f keep⟩, 4611686018427387904, false⟩ :: l)) := by
  obtain ⟨M, lD, -, c1, c2, fD, -, -, O⟩ := disk_at h
  simp only [diskL, List.cons_append, List.nil_append] at O
  have f1 := fD 1
  have f2 := fD 2
  have O1 := (O.setCellAt 0 1 (.int .i64 4611686018427387904) rfl (by simp)).setCellAt 0 2 (.bool false) rfl (by simp)
  simp only [List.set_cons_succ, List.set_cons_zero] at O1
  have O2 : Own W _ (diskA D ⟨d.n, d.F, 4611686018427387904, false⟩ :: l) := Own.mk (fun M : Nat => diskL D ⟨d.n, d.F, 4611686018427387904, false⟩ M) M O1
  haveI : InW D wx := ⟨lD⟩
  have kF := Lib.hid (files1_O O2 hn f hf)
  obtain ⟨k, hk⟩ : ∃ k, k = crK f keep := ⟨_, rfl⟩
  have hk1 : max (0 : Int) (min keep ((f.s.size : Int) - (f.sure : Int))) = (k : Int) := by rw [hk]; unfold crK; omega
  have hk2 : f.sure + k ≤ f.s.size := by rw [hk]; unfold crK; omega
  rw [← hk]
  have hq1 : wrap64 ((f.sure : Int) + (k : Int)) = (f.sure : Int) + (k : Int) := by unfold wrap64; omega
  have hq2 : (f.sure : Int) + (k : Int) ≤ (f.s.size : Int) := by omega
  have hq3 : wrap64 ((f.s.size : Int) - (f.sure : Int)) = (f.s.size : Int) - (f.sure : Int) := by unfold wrap64; omega
  replace hk := Lib.hid trivial
  clear h O O1 O2 fD lD
  go_enter Tryz.func12, Tryz.ntmps12
  go_upto_region 3 with (go_at_call 38; (with_reducible refine kF.out.mono ?_); rintro e w1 ⟨A, c, rfl, O3⟩)
  clear kF c1 c2 f1 f2
  replace hf := Lib.hid hf
  replace hn := Lib.hid hn
  go_loopw [19] (fun v wr => (v = .int .i64 0 ∧ Own W wr (diskA D ⟨d.n, d.F, 4611686018427387904, false⟩ :: slA 1 (.slice A 1 c) 1 [.string nm] :: l)) ∨ (v = .int .i64 1 ∧ Own W wr (diskA D ⟨1, putF d.F nm ⟨f.s.extract 0 (f.sure + k), f.sure + k⟩, 4611686018427387904, false⟩ :: l))) (fun v _ => 1 - (intOf v).toNat)
  case atStart => exact .inl ⟨rfl, O3⟩
  case round =>
    clear O3
    rcases hrel with ⟨rfl, O⟩ | ⟨rfl, O⟩
    · obtain ⟨g, o, rfl, hg, hc⟩ := (O.sl 1 rfl).cellsOf (by omega)
      have d0 : wr.cell? ⟨g, o, none⟩ = some (.string nm) := hc 0 (by omega)
      obtain ⟨M2, lD, c0, -, -, -, hL, -, O2⟩ := disk_at O
      have hL := hL nm false ⟨by decide, by decide⟩
      rw [hf.out] at hL
      simp only [Option.elim, Bool.false_eq_true, if_false] at hL
      haveI : InW D wr := ⟨lD⟩
      haveI : InW g wr := ⟨hg⟩
      clear hc O
      replace O2 := Lib.hid O2
      go_upto_region 6 with fail
      have O4 := O2.out.newCells [.string f.s, .int .i64 (f.sure : Int)] 86
      simp only [diskL, List.cons_append, List.nil_append] at O4
      clear O2 hL d0 c0 lD hg
      generalize wr.heap.size = B at *
      generalize hw4 : wr.alloc _ = w4 at *
      clear hw4
      obtain ⟨lB, qB, -⟩ := O4.cells 0 rfl
      obtain ⟨lD, qD, -⟩ := O4.cells 1 rfl
      have b0 := qB 0 (by simp)
      have b1 := qB 1 (by simp)
      have c0 := qD 0 (by simp)
      simp only [List.getElem?_cons_succ, List.getElem?_cons_zero] at b0 b1 c0
      haveI : InW B w4 := ⟨lB⟩
      haveI : InW D w4 := ⟨lD⟩
      clear qB qD lB lD
      replace O4 := Lib.hid O4
      go_upto_region 7 with fail
      refine wp_region_grow_tail 11 (by kernel_rfl) (by kernel_rfl) ?_
      simp only [List.take_succ_cons, List.take_zero, List.drop_succ_cons, List.drop_zero]
      repeat (go_big_quiet_step (fail))
      refine wpQuiet_nil ?_
      intro ex
      have OM := Lib.hid ((O4.out.plus ex).pull 2 rfl)
      clear O4 b0 b1 c0
      go_wp2_with (first | (at_mapUpdate; refine wpList_mapUpdate_O dmapTy rfl _ _ _ rfl OM.out nm ⟨f.s.extract 0 (f.sure + k), f.sure + k⟩ ⟨by decide, by decide⟩ rfl rfl rfl ?_; intro w5 O5))
      go_roundw
      case rel =>
        rw [hf.out] at O5
        have O6 := ((O5.pull 1 rfl).drop.pull 1 rfl)
        dsimp only [List.eraseIdx] at O6
        have O7 := Own.mk (fun M : Nat => diskL D ⟨1, putF d.F nm ⟨f.s.extract 0 (f.sure + k), f.sure + k⟩, 4611686018427387904, false⟩ M) M2 (by
          have h7 := O6
          rw [hn.out] at h7
          exact h7)
        exact .inr ⟨rfl, O7.rot1.drop⟩
      case measure => simp [intOf]
    · replace O := Lib.hid O
      go_wp2_with fail
      go_end0
      exact ⟨rfl, O.out⟩
end
end Go.Proofs.YtpdlgflbcgemnaaGreatDoor
