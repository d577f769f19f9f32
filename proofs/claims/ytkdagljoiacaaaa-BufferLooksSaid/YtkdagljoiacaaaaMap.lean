/- A map that the call has made, as an assertion: what it holds at each key, and how many. Plain laws. -/
import Derived.Test.YtkdagljoiacaaaaHeap
import Derived.Maps.OwnSet
set_option linter.unusedSimpArgs false
set_option linter.unusedVariables false
namespace Go
open Go.RowKit Go.ChangeMaps Go.MapKept
open Go.Maps (Keyed)
section
variable {α β : Type} [DecidableEq α]
def mget : List (α × β) → α → Option β
  | [], _ => none
  | p :: l, a => if p.1 = a then some p.2 else mget l a
theorem mget_none {L : List (α × β)} {a : α} (h : ∀ p ∈ L, p.1 ≠ a) : mget L a = none := by
  induction L with
  | nil => rfl
  | cons p l ih => rw [mget, if_neg (h p List.mem_cons_self)]; exact ih fun q hq => h q (List.mem_cons_of_mem _ hq)
theorem mget_push (L : List (α × β)) (a : α) (b : β) (c : α) (h : ∀ p ∈ L, p.1 ≠ a) : mget (L ++ [(a, b)]) c = if c = a then some b else mget L c := by
  induction L with
  | nil =>
    by_cases e : c = a
    · subst e; simp [mget]
    · rw [if_neg e]
      have e' : ¬ a = c := fun k => e k.symm
      simp [mget, e']
  | cons p l ih =>
    rw [List.cons_append, mget, mget, ih fun q hq => h q (List.mem_cons_of_mem _ hq)]
    by_cases e : p.1 = c
    · rw [if_pos e, if_pos e, if_neg (fun k => h p List.mem_cons_self (e.trans k))]
    · rw [if_neg e, if_neg e]
theorem mget_set {L : List (α × β)} {j : Nat} {p : α × β} (hd : (L.map (·.1)).Nodup) (hj : L[j]? = some p) (b : β) (c : α) : mget (L.set j (p.1, b)) c = if c = p.1 then some b else mget L c := by
  induction L generalizing j with
  | nil => simp at hj
  | cons q l ih =>
    rw [List.map_cons, List.nodup_cons] at hd
    cases j with
    | zero =>
      simp at hj
      subst hj
      rw [List.set_cons_zero, mget, mget]
      by_cases e : q.1 = c
      · rw [if_pos e, if_pos e.symm]
      · rw [if_neg e, if_neg (fun k => e k.symm), if_neg e]
    | succ j =>
      have hj' : l[j]? = some p := by simpa using hj
      rw [List.set_cons_succ, mget, mget, ih hd.2 hj']
      by_cases e : q.1 = c
      · have : c ≠ p.1 := fun k => hd.1 (List.mem_map.2 ⟨p, List.mem_of_getElem? hj', by rw [← k, e]⟩)
        rw [if_pos e, if_pos e, if_neg this]
      · rw [if_neg e, if_neg e]
theorem mget_erase {L : List (α × β)} {j : Nat} {p : α × β} (hd : (L.map (·.1)).Nodup) (hj : L[j]? = some p) (c : α) : mget (L.eraseIdx j) c = if c = p.1 then none else mget L c := by
  induction L generalizing j with
  | nil => simp at hj
  | cons q l ih =>
    rw [List.map_cons, List.nodup_cons] at hd
    cases j with
    | zero =>
      simp at hj
      subst hj
      rw [List.eraseIdx_cons_zero, mget]
      by_cases e : c = q.1
      · rw [if_pos e]
        exact mget_none fun r hr k => hd.1 (List.mem_map.2 ⟨r, hr, k.trans e⟩)
      · rw [if_neg e, if_neg (fun k => e k.symm)]
    | succ j =>
      have hj' : l[j]? = some p := by simpa using hj
      rw [List.eraseIdx_cons_succ, mget, mget, ih hd.2 hj']
      by_cases e : q.1 = c
      · have : c ≠ p.1 := fun k => hd.1 (List.mem_map.2 ⟨p, List.mem_of_getElem? hj', by rw [← k, e]⟩)
        rw [if_pos e, if_pos e, if_neg this]
      · rw [if_neg e, if_neg e]
theorem mget_at {L : List (α × β)} {j : Nat} {p : α × β} (hd : (L.map (·.1)).Nodup) (hj : L[j]? = some p) : mget L p.1 = some p.2 := by
  induction L generalizing j with
  | nil => simp at hj
  | cons q l ih =>
    rw [List.map_cons, List.nodup_cons] at hd
    rw [mget]
    cases j with
    | zero => simp at hj; subst hj; rw [if_pos rfl]
    | succ j =>
      have hj' : l[j]? = some p := by simpa using hj
      rw [if_neg (fun k => hd.1 (List.mem_map.2 ⟨p, List.mem_of_getElem? hj', k.symm⟩))]
      exact ih hd.2 hj'
end
section
variable {α β : Type} [DecidableEq α]
/-- how a map's keys and elements lie -/
structure MapTy (P : Program) (k e t : TypeId) (ok : α → Prop) (enc : α → Value) (encv : β → Value) (z : Value) : Prop where
  K : Keyed P k
  ht : P.underlying t = some (.map k e)
  hz : ∀ w, (zeroValue e).run P w = .ok z w
  hkey : ∀ a, ok a → ∃ l, keyOf P k (enc a) = some l
  inj : ∀ a b, enc a = enc b → a = b
/-- block M is a map of n entries: F at each key -/
def MapAt (enc : α → Value) (encv : β → Value) (ok : α → Prop) (w : World) (M n : Nat) (F : α → Option β) : Prop :=
  ∃ es clock, ∃ L : List (α × β), w.heap[M]? = some (.map es clock) ∧ es.toList.map (fun e => (e.key, e.val)) = L.map (fun p => (enc p.1, encv p.2)) ∧ (∀ p ∈ L, ok p.1) ∧ (L.map (·.1)).Nodup ∧ L.length = n ∧ ∀ a, mget L a = F a
variable {P : Program} {k e t : TypeId} {ok : α → Prop} {enc : α → Value} {encv : β → Value} {z : Value} {w : World} {M n : Nat} {F : α → Option β}
theorem MapAt.lt (h : MapAt enc encv ok w M n F) : M < w.heap.size := by
  obtain ⟨es, clock, L, hb, _⟩ := h
  exact (Array.getElem?_eq_some_iff.1 hb).1
omit [DecidableEq α] in
theorem MapAt.found (T : MapTy P k e t ok enc encv z) (w : World) {es : Array MapEntry} {L : List (α × β)} (hL : es.toList.map (fun e => (e.key, e.val)) = L.map (fun p => (enc p.1, encv p.2))) (hok : ∀ p ∈ L, ok p.1) (a : α) (ha : ok a) :
    ((Instr.findKey k (enc a) es.toList).run P w = .ok none w ∧ ∀ p ∈ L, p.1 ≠ a) ∨ ∃ j e0 p, (Instr.findKey k (enc a) es.toList).run P w = .ok (some (j, encv p.2)) w ∧ es.toList[j]? = some e0 ∧ e0.key = enc a ∧ e0.val = encv p.2 ∧ L[j]? = some p ∧ p.1 = a := by
  obtain ⟨l, hl⟩ := T.hkey a ha
  have hks : ∀ x ∈ es.toList, ∃ l, keyOf P k x.key = some l := fun x hx => by
    have : (x.key, x.val) ∈ L.map (fun p => (enc p.1, encv p.2)) := by rw [← hL]; exact List.mem_map.2 ⟨x, hx, rfl⟩
    obtain ⟨p, hp, he⟩ := List.mem_map.1 this
    have e1 : enc p.1 = x.key := congrArg Prod.fst he
    rw [← e1]
    exact T.hkey _ (hok p hp)
  rcases T.K.find w hl es.toList hks with ⟨h1, h2⟩ | ⟨j, e0, h1, h2, h3⟩
  · refine .inl ⟨h1, fun p hp hpa => ?_⟩
    have : (enc p.1, encv p.2) ∈ es.toList.map (fun e => (e.key, e.val)) := by rw [hL]; exact List.mem_map.2 ⟨p, hp, rfl⟩
    obtain ⟨x, hx, he⟩ := List.mem_map.1 this
    exact h2 x hx ((congrArg Prod.fst he).trans (by rw [hpa]))
  · have hj : (L.map (fun p => (enc p.1, encv p.2)))[j]? = some (e0.key, e0.val) := by rw [← hL, List.getElem?_map, h2]; rfl
    rw [List.getElem?_map, Option.map_eq_some_iff] at hj
    obtain ⟨p, hp, he⟩ := hj
    have e1 : enc p.1 = e0.key := congrArg Prod.fst he
    have e2 : encv p.2 = e0.val := congrArg Prod.snd he
    exact .inr ⟨j, e0, p, by rw [e2]; exact h1, h2, h3, e2.symm, hp, T.inj _ _ (e1.trans h3)⟩
/-- 'm[a]', and with ok -/
theorem MapAt.look (T : MapTy P k e t ok enc encv z) (h : MapAt enc encv ok w M n F) (a : α) (ha : ok a) (c : Bool) :
    (Instr.lookup t (.map (some M)) (enc a) c).run P w = .ok (if c then .tuple #[(F a).elim z encv, .bool (F a).isSome] else (F a).elim z encv) w := by
  obtain ⟨es, clock, L, hb, hL, hok, hd, hn, hF⟩ := h
  obtain ⟨l, hl⟩ := T.hkey a ha
  rcases MapAt.found T w hL hok a ha with ⟨h1, h2⟩ | ⟨j, e0, p, h1, h2, h3, h4, h5, rfl⟩
  · rw [← hF, mget_none h2]
    simp [Instr.lookup, run_underlying T.ht, MapKept.run_getObj_map hb, T.K.check w _ hl, h1, T.hz, Result.andThen]
  · rw [← hF, mget_at hd h5]
    simp [Instr.lookup, run_underlying T.ht, MapKept.run_getObj_map hb, T.K.check w _ hl, h1, Result.andThen]
theorem MapAt.len (T : MapTy P k e t ok enc encv z) (h : MapAt enc encv ok w M n F) (ty : TypeId) : (Builtin.len_ #[t] ty #[.map (some M)]).run P w = .ok (.int .i64 n) w := by
  obtain ⟨es, clock, L, hb, hL, hok, hd, hn, hF⟩ := h
  have e1 : es.size = n := by
    have := congrArg List.length hL
    simpa [hn] using this
  simp [Builtin.len_, run_underlying T.ht, MapKept.run_getObj_map hb, goInt, Result.andThen, e1]
/-- the map's block, another one in its place -/
theorem Chg.of_setBlock {w : World} {M : Nat} (o : Obj) : Chg w (setBlock w M o) (fun k => k = M) :=
  ⟨rfl, rfl, rfl, by simp [setBlock], fun k hk hn => by simp only [setBlock]; rw [Array.getElem?_setIfInBounds_ne (fun e => hn e.symm)]⟩
theorem MapAt.store (T : MapTy P k e t ok enc encv z) (h : MapAt enc encv ok w M n F) (a : α) (b : β) (ha : ok a) :
    ∃ w', (Instr.mapUpdate t (.map (some M)) (enc a) (encv b)).run P w = .ok () w' ∧ MapAt enc encv ok w' M (if (F a).isSome then n else n + 1) (fun c => if c = a then some b else F c) ∧ Chg w w' (fun k => k = M) := by
  obtain ⟨es, clock, L, hb, hL, hok, hd, hn, hF⟩ := h
  obtain ⟨l, hl⟩ := T.hkey a ha
  have hlt := (Array.getElem?_eq_some_iff.1 hb).1
  rcases MapAt.found T w hL hok a ha with ⟨h1, h2⟩ | ⟨j, e0, p, h1, h2, h3, h4, h5, rfl⟩
  · refine ⟨setBlock w M (.map (es.push ⟨enc a, encv b, clock⟩) (clock + 1)), ?_, ⟨es.push ⟨enc a, encv b, clock⟩, clock + 1, L ++ [(a, b)], by simp [setBlock, hlt], ?_, ?_, ?_, ?_, ?_⟩, Chg.of_setBlock _⟩
    · simp [Instr.mapUpdate, run_underlying T.ht, MapKept.run_getObj_map hb, T.K.check w false hl, h1, MapKept.run_setObj_map _ hb, Result.andThen, setBlock]
    · simp [hL]
    · intro p hp
      rcases List.mem_append.1 hp with hp | hp
      · exact hok p hp
      · simp at hp; subst hp; exact ha
    · rw [List.map_append, List.nodup_append]
      refine ⟨hd, by simp, ?_⟩
      intro x hx y hy e
      simp at hy
      subst hy
      obtain ⟨p, hp, rfl⟩ := List.mem_map.1 hx
      exact h2 p hp e
    · rw [← hF, mget_none h2]; simp [hn]
    · intro c; rw [mget_push _ _ _ _ h2, hF]
  · have hj : es[j]? = some e0 := by simpa using h2
    have hlist : (es.modify j (fun e' => { e' with key := enc p.1, val := encv b })).toList = es.toList.set j { e0 with key := enc p.1, val := encv b } := by rw [Array.toList_modify, modify_eq_set _ _ _ _ h2]
    refine ⟨setBlock w M (.map (es.modify j (fun e' => { e' with key := enc p.1, val := encv b })) clock), ?_, ⟨es.modify j (fun e' => { e' with key := enc p.1, val := encv b }), clock, L.set j (p.1, b), by simp [setBlock, hlt], ?_, ?_, ?_, ?_, ?_⟩, Chg.of_setBlock _⟩
    · simp [Instr.mapUpdate, run_underlying T.ht, MapKept.run_getObj_map hb, T.K.check w false hl, h1, hj, h3, T.K.stays w hl, MapKept.run_setObj_map _ hb, Result.andThen, setBlock]
    · rw [hlist, List.map_set, List.map_set, hL]
    · intro q hq
      rcases List.mem_or_eq_of_mem_set hq with hq | rfl
      · exact hok q hq
      · exact ha
    · rw [List.map_set]
      have : (L.map (·.1)).set j p.1 = L.map (·.1) := by
        apply List.ext_getElem?
        intro i
        rw [List.getElem?_set]
        split
        · rename_i e
          subst e
          rw [List.getElem?_map, h5]
          have := (List.getElem?_eq_some_iff.1 h5).1
          simp [this]
        · rfl
      simp only at this ⊢
      rw [this]
      exact hd
    · rw [← hF, mget_at hd h5]; simp [hn]
    · intro c; rw [mget_set hd h5, hF]
theorem MapAt.drop (T : MapTy P k e t ok enc encv z) (h : MapAt enc encv ok w M n F) (a : α) (ha : ok a) (ty : TypeId) :
    ∃ w', (Builtin.delete_ #[t, k] ty #[.map (some M), enc a]).run P w = .ok (.tuple #[]) w' ∧ MapAt enc encv ok w' M (if (F a).isSome then n - 1 else n) (fun c => if c = a then none else F c) ∧ Chg w w' (fun k => k = M) := by
  obtain ⟨es, clock, L, hb, hL, hok, hd, hn, hF⟩ := h
  obtain ⟨l, hl⟩ := T.hkey a ha
  have hlt := (Array.getElem?_eq_some_iff.1 hb).1
  rcases MapAt.found T w hL hok a ha with ⟨h1, h2⟩ | ⟨j, e0, p, h1, h2, h3, h4, h5, rfl⟩
  · refine ⟨setBlock w M (.map es clock), ?_, ⟨es, clock, L, by simp [setBlock, hlt], hL, hok, hd, ?_, ?_⟩, Chg.of_setBlock _⟩
    · simp [Builtin.delete_, run_underlying T.ht, MapKept.run_getObj_map hb, T.K.check w _ hl, h1, MapKept.run_setObj_map _ hb, Result.andThen, setBlock]
    · rw [← hF, mget_none h2]; simp [hn]
    · intro c
      show mget L c = if c = a then none else F c
      by_cases e : c = a
      · subst e; rw [if_pos rfl, mget_none h2]
      · rw [if_neg e, hF]
  · have hjl : j < es.size := by have := (List.getElem?_eq_some_iff.1 h2).1; simpa using this
    refine ⟨setBlock w M (.map (es.eraseIdxIfInBounds j) clock), ?_, ⟨es.eraseIdxIfInBounds j, clock, L.eraseIdx j, by simp [setBlock, hlt], ?_, ?_, ?_, ?_, ?_⟩, Chg.of_setBlock _⟩
    · simp [Builtin.delete_, run_underlying T.ht, MapKept.run_getObj_map hb, T.K.check w _ hl, h1, MapKept.run_setObj_map _ hb, Result.andThen, setBlock]
    · have : (es.eraseIdxIfInBounds j).toList = es.toList.eraseIdx j := by
        rw [Array.eraseIdxIfInBounds]
        simp [hjl]
      rw [this, map_eraseIdx, map_eraseIdx, hL]
    · intro q hq
      exact hok q ((List.eraseIdx_sublist _ _).subset hq)
    · exact hd.sublist ((List.eraseIdx_sublist L j).map _)
    · rw [← hF, mget_at hd h5, List.length_eraseIdx]
      have := (List.getElem?_eq_some_iff.1 h5).1
      simp [hn]; omega
    · intro c; rw [mget_erase hd h5, hF]
/-- a map, as an assertion -/
def mapA (enc : α → Value) (encv : β → Value) (ok : α → Prop) (M n : Nat) (F : α → Option β) : Asn where
  holds w S := (∀ k, S k ↔ k = M) ∧ MapAt enc encv ok w M n F
  keep w w' S h hs hk := ⟨h.1, by
    obtain ⟨h0, es, clock, L, hb, h⟩ := h
    exact ⟨es, clock, L, (hk M ((h0 M).2 rfl)).trans hb, h⟩⟩
  inb w S h k hk := by rw [(h.1 k).1 hk]; exact h.2.lt
variable {W wx : World} {l : List Asn}
theorem Own.map (i : Nat) (h : Own W wx l) (hi : l[i]? = some (mapA enc encv ok M n F)) : MapAt enc encv ok wx M n F := by
  obtain ⟨A, hA, _⟩ := h.at hi
  exact hA.2
theorem Own.newMap (h : Own W wx l) (enc : α → Value) (encv : β → Value) (ok : α → Prop) : Own W (wx.alloc (.map #[] 0)) (mapA enc encv ok wx.heap.size 0 (fun _ => none) :: l) :=
  h.add (Chg.of_alloc wx _ _) (Q := mapA enc encv ok wx.heap.size 0 (fun _ => none)) (A := fun k => k = wx.heap.size)
    ⟨fun k => Iff.rfl, #[], 0, [], (MapKept.heap_alloc wx _).1, rfl, ⟨(fun p hp => by cases hp), List.nodup_nil, rfl, fun a => rfl⟩⟩ (fun k hk => by omega)
theorem Own.mapStore (T : MapTy P k e t ok enc encv z) (h : Own W wx (mapA enc encv ok M n F :: l)) (a : α) (b : β) (ha : ok a) :
    ∃ w', (Instr.mapUpdate t (.map (some M)) (enc a) (encv b)).run P wx = .ok () w' ∧ Own W w' (mapA enc encv ok M (if (F a).isSome then n else n + 1) (fun c => if c = a then some b else F c) :: l) := by
  obtain ⟨w', h1, h2, h3⟩ := MapAt.store T (h.map 0 rfl) a b ha
  exact ⟨w', h1, Own.step (A := fun _ => False) h fun A hA => ⟨A, h3.mono fun k hk => (hA.1 k).2 hk, ⟨hA.1, h2⟩, fun k hk => .inl hk⟩⟩
theorem Own.mapDrop (T : MapTy P k e t ok enc encv z) (h : Own W wx (mapA enc encv ok M n F :: l)) (a : α) (ha : ok a) (ty : TypeId) :
    ∃ w', (Builtin.delete_ #[t, k] ty #[.map (some M), enc a]).run P wx = .ok (.tuple #[]) w' ∧ Own W w' (mapA enc encv ok M (if (F a).isSome then n - 1 else n) (fun c => if c = a then none else F c) :: l) := by
  obtain ⟨w', h1, h2, h3⟩ := MapAt.drop T (h.map 0 rfl) a ha ty
  exact ⟨w', h1, Own.step (A := fun _ => False) h fun A hA => ⟨A, h3.mono fun k hk => (hA.1 k).2 hk, ⟨hA.1, h2⟩, fun k hk => .inl hk⟩⟩
/-- 'm[a] = b' in a plain walk -/
theorem wpList_mapUpdate_O (T : MapTy P k e t ok enc encv z) {w : World} {ops : Array Oper} {rest : List Oper} {o : Oper} {a : Act} {Q : Exit → Act → World → Prop} (hgd : o.guard = none) (m x v : Operand) (ho : o.op = Op.mapUpdate t m x v)
    (h : Own W w (mapA enc encv ok M n F :: l)) (key : α) (val : β) (hok : ok key) (hm : a.eval m = .map (some M)) (hx : a.eval x = enc key) (hv : a.eval v = encv val)
    (K : ∀ w', Own W w' (mapA enc encv ok M (if (F key).isSome then n else n + 1) (fun c => if c = key then some val else F c) :: l) → wpList P ops Q rest (a.put o.dst undef) w') : wpList P ops Q (o :: rest) a w := by
  refine wpList_plain hgd fun K' hK' => ?_
  obtain ⟨w', hrun, r1⟩ := Own.mapStore T h key val hok
  unfold Oper.wp
  simp [execOp, ho, hm, hx, hv, hrun, Result.andThen]
  exact hK' _ _ (K w' r1)
/-- 'delete(m, a)' in a plain walk -/
theorem wpList_delete_O (T : MapTy P k e t ok enc encv z) {w : World} {ops : Array Oper} {rest : List Oper} {o : Oper} {a : Act} {Q : Exit → Act → World → Prop} (hgd : o.guard = none) (m x : Operand)
    (ho : o.op = Op.call { callee := Callee.builtin Builtin.delete, args := #[m, x], argTypes := #[t, k] })
    (h : Own W w (mapA enc encv ok M n F :: l)) (key : α) (hok : ok key) (hm : a.eval m = .map (some M)) (hx : a.eval x = enc key)
    (K : ∀ w', Own W w' (mapA enc encv ok M (if (F key).isSome then n - 1 else n) (fun c => if c = key then none else F c) :: l) → wpList P ops Q rest (a.put o.dst (.tuple #[])) w') : wpList P ops Q (o :: rest) a w := by
  refine wpList_plain hgd fun K' hK' => ?_
  obtain ⟨w', hrun, r1⟩ := Own.mapDrop T h key hok o.type
  unfold Oper.wp
  simp [execOp, ho, resolve, invoke, builtin, hm, hx, hrun, Result.andThen]
  exact hK' _ _ (K w' r1)
end
end Go
