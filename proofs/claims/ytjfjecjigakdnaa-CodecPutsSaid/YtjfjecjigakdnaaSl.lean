/- Slices that are held, and worlds that change in a set of blocks alone: plain laws. -/
import Derived.Test.YtjfjecjigakdnaaOwn
import Derived.Deep.Upon
set_option linter.unusedSimpArgs false
set_option linter.unusedVariables false
namespace Go
open Go.RowKit
/-- w', grown out of w but for the blocks of S -/
structure Chg (w w' : World) (S : Nat → Prop) : Prop where
  os : w'.os = w.os
  tape : w'.tape = w.tape
  output : w'.output = w.output
  size : w.heap.size ≤ w'.heap.size
  block : ∀ k, k < w.heap.size → ¬ S k → w'.heap[k]? = w.heap[k]?
/-- a set of blocks, and the new ones -/
def Grown (S : Nat → Prop) (w w' : World) : Nat → Prop := fun k => S k ∨ (w.heap.size ≤ k ∧ k < w'.heap.size)
theorem Chg.refl (w : World) (S : Nat → Prop) : Chg w w S := ⟨rfl, rfl, rfl, Nat.le_refl _, fun _ _ _ => rfl⟩
theorem Chg.trans {w w' w'' : World} {S T : Nat → Prop} (h : Chg w w' S) (k : Chg w' w'' T) (hT : ∀ i, T i → i < w.heap.size → S i) : Chg w w'' S :=
  ⟨k.os.trans h.os, k.tape.trans h.tape, k.output.trans h.output, Nat.le_trans h.size k.size, fun i hi hn => (k.block i (Nat.lt_of_lt_of_le hi h.size) (fun t => hn (hT i t hi))).trans (h.block i hi hn)⟩
theorem Chg.trans' {w w' w'' : World} {S : Nat → Prop} (h : Chg w w' S) (k : Chg w' w'' (Grown S w w')) : Chg w w'' S :=
  h.trans k fun i hi hl => hi.resolve_right fun h2 => by omega
theorem Chg.mono {w w' : World} {S T : Nat → Prop} (h : Chg w w' S) (hs : ∀ k, S k → T k) : Chg w w' T := ⟨h.os, h.tape, h.output, h.size, fun k hk hn => h.block k hk fun s => hn (hs k s)⟩
theorem Chg.of_plus (w : World) (e : Ext) (S : Nat → Prop) : Chg w (w.plus e) S := ⟨rfl, rfl, rfl, by rw [World.size_plus_eq]; omega, fun k hk _ => w.plus_block e hk⟩
theorem Chg.of_alloc (w : World) (o : Obj) (S : Nat → Prop) : Chg w (w.alloc o) S := ⟨rfl, rfl, rfl, by simp, fun k hk _ => Below.heap_alloc w o k hk⟩
theorem Chg.of_drew (w : World) (S : Nat → Prop) : Chg w w.drew S := ⟨rfl, rfl, rfl, Nat.le_refl _, fun _ _ _ => rfl⟩
theorem Chg.of_setCell (w : World) (a : Addr) (v : Value) (S : Nat → Prop) (h : S a.block) : Chg w (w.setCell a v) S :=
  ⟨rfl, rfl, rfl, by rw [World.size_setCell]; exact Nat.le_refl _, fun k hk hn => by
    simp only [World.setCell]
    rw [Array.getElem?_modify, if_neg (fun e => hn (by rw [← e]; exact h))]⟩
theorem Chg.plus {w w' : World} {S : Nat → Prop} (h : Chg w w' S) (e : Ext) : Chg w (w'.plus e) S := h.trans (Chg.of_plus w' e S) fun _ s _ => s
theorem Chg.alloc {w w' : World} {S : Nat → Prop} (h : Chg w w' S) (o : Obj) : Chg w (w'.alloc o) S := h.trans (Chg.of_alloc w' o S) fun _ s _ => s
theorem Chg.drew {w w' : World} {S : Nat → Prop} (h : Chg w w' S) : Chg w w'.drew S := h.trans (Chg.of_drew w' S) fun _ s _ => s
theorem Chg.setCell {w w' : World} {S : Nat → Prop} (h : Chg w w' S) (a : Addr) (v : Value) (ha : S a.block ∨ w.heap.size ≤ a.block) : Chg w (w'.setCell a v) S :=
  h.trans (Chg.of_setCell w' a v (fun k => k = a.block) rfl) fun i hi hl => by
    subst hi
    exact ha.resolve_right (by omega)
theorem Chg.of_Plus {w w' : World} (h : w.Plus w') (S : Nat → Prop) : Chg w w' S := by
  obtain ⟨e, rfl⟩ := h
  exact Chg.of_plus w e S
theorem Chg.toPlus {W w w' : World} {S : Nat → Prop} (h : Chg w w' S) (hp : W.Plus w) (hS : ∀ k, S k → W.heap.size ≤ k) : W.Plus w' := by
  have hb := Plus.below hp
  exact plus_of_below ⟨h.os.trans hb.os, h.tape.trans hb.tape, h.output.trans hb.output, Nat.le_trans hb.size h.size, fun k hk =>
    (h.block k (Nat.lt_of_lt_of_le hk hb.size) (fun s => by have := hS k s; omega)).trans (hb.block k hk)⟩
theorem Chg.cell {w w' : World} {S : Nat → Prop} (h : Chg w w' S) {b o : Nat} (hb : b < w.heap.size) (hn : ¬ S b) : w'.cell? ⟨b, o, none⟩ = w.cell? ⟨b, o, none⟩ :=
  World.cell?_of_block (w := w) (a := ⟨b, o, none⟩) (h.block b hb hn)
theorem Chg.frozen {w w' : World} {S : Nat → Prop} (h : Chg w w' S) {b o : Nat} (hb : b < w.heap.size) (hn : ¬ S b) : w'.frozen? ⟨b, o, none⟩ = w.frozen? ⟨b, o, none⟩ :=
  World.frozen?_of_block (w := w) (a := ⟨b, o, none⟩) (h.block b hb hn)
theorem RowsAt.chg {w w' : World} {A : Option Addr} {size n : Nat} {f : Nat → Nat → Value} {S : Nat → Prop} (h : RowsAt w A size n f) (hc : Chg w w' S) (hS : ∀ g o, A = some ⟨g, o, none⟩ → ¬ S g) : RowsAt w' A size n f := fun hn => by
  obtain ⟨b, off, hA, hb, hr⟩ := h hn
  exact ⟨b, off, hA, Nat.lt_of_lt_of_le hb hc.size, fun i j hi hj => (hc.cell hb (hS b off hA)).trans (hr i j hi hj)⟩
/-- a slice that is held: n elements of size cells, those cells; what lies behind them may be written -/
structure Sl (w : World) (size : Nat) (v : Value) (n : Nat) (cs : List Value) : Prop where
  len : cs.length = n * size
  val : (v = .slice none 0 0 ∧ n = 0) ∨ ∃ g off cap, v = .slice (some ⟨g, off, none⟩) n cap ∧ g < w.heap.size ∧ n ≤ cap ∧ cap ≤ maxLen ∧ (∀ j, j < n * size → w.cell? ⟨g, off + j, none⟩ = cs[j]?) ∧
    (∀ j, j < cap * size → (w.cell? ⟨g, off + j, none⟩).isSome = true ∧ w.frozen? ⟨g, off + j, none⟩ = false)
theorem Sl.nil (w : World) (size : Nat) : Sl w size (.slice none 0 0) 0 [] := ⟨by simp, .inl ⟨rfl, rfl⟩⟩
theorem Sl.lt {w : World} {size : Nat} {v : Value} {n : Nat} {cs : List Value} (h : Sl w size v n cs) : ∀ g, v.ownBlock = some g → g < w.heap.size := by
  intro g hg
  rcases h.val with ⟨rfl, _⟩ | ⟨g', off, cap, rfl, hl, _⟩
  · cases hg
  · simp [Value.ownBlock] at hg
    omega
theorem Sl.keep {w w' : World} {size : Nat} {v : Value} {n : Nat} {cs : List Value} (h : Sl w size v n cs) (hs : w.heap.size ≤ w'.heap.size) (hb : ∀ g, v.ownBlock = some g → w'.heap[g]? = w.heap[g]?) : Sl w' size v n cs := by
  refine ⟨h.len, ?_⟩
  rcases h.val with h1 | ⟨g, off, cap, rfl, hl, hc, hm, h1, h2⟩
  · exact .inl h1
  · have e := hb g rfl
    exact .inr ⟨g, off, cap, rfl, Nat.lt_of_lt_of_le hl hs, hc, hm, fun j hj => (World.cell?_of_block (w := w) (a := ⟨g, off + j, none⟩) e).trans (h1 j hj), fun j hj => by
      rw [World.cell?_of_block (w := w) (a := ⟨g, off + j, none⟩) e, World.frozen?_of_block (w := w) (a := ⟨g, off + j, none⟩) e]; exact h2 j hj⟩
theorem Sl.chg {w w' : World} {size : Nat} {v : Value} {n : Nat} {cs : List Value} {S : Nat → Prop} (h : Sl w size v n cs) (hc : Chg w w' S) (hn : ∀ g, v.ownBlock = some g → ¬ S g) : Sl w' size v n cs :=
  h.keep hc.size fun g hg => hc.block g (h.lt g hg) (hn g hg)
theorem Sl.plus {w : World} {size : Nat} {v : Value} {n : Nat} {cs : List Value} (h : Sl w size v n cs) (e : Ext) : Sl (w.plus e) size v n cs := h.chg (Chg.of_plus w e fun _ => False) (fun _ _ h => h)
theorem Sl.shape {w : World} {size : Nat} {v : Value} {n : Nat} {cs : List Value} (h : Sl w size v n cs) : ∃ A c, v = .slice A n c := by
  rcases h.val with ⟨rfl, rfl⟩ | ⟨g, off, cap, rfl, _⟩
  · exact ⟨_, _, rfl⟩
  · exact ⟨_, _, rfl⟩
theorem Sl.rows {w : World} {size : Nat} {v : Value} {n : Nat} {cs : List Value} (h : Sl w size v n cs) {A : Option Addr} {c : Nat} (hv : v = .slice A n c) (f : Nat → Nat → Value) (hf : ∀ i j, i < n → j < size → cs[i * size + j]? = some (f i j)) : RowsAt w A size n f := fun hn => by
  rcases h.val with ⟨rfl, h0⟩ | ⟨g, off, cap, rfl, hl, hc, hm, h1, h2⟩
  · omega
  · cases hv
    refine ⟨g, off, rfl, hl, fun i j hi hj => ?_⟩
    have hlt : i * size + j < n * size := by
      have : (i + 1) * size ≤ n * size := Nat.mul_le_mul_right _ hi
      rw [Nat.add_mul, Nat.one_mul] at this
      omega
    rw [h1 _ hlt, hf i j hi hj]
/-- a slice's value between two of its places, as the model has it -/
theorem Sl.cut {w : World} {size : Nat} {n : Nat} {cs : List Value} {g off cap : Nat} (h : Sl w size (.slice (some ⟨g, off, none⟩) n cap) n cs) (k off' cap' : Nat) (hk : k ≤ n) (hoff : (k < n ∨ 0 < cap') → off' = off + k * size) (hcap : n - k ≤ cap' ∧ k + cap' ≤ cap) :
    Sl w size (.slice (some ⟨g, off', none⟩) (n - k) cap') (n - k) (cs.drop (k * size)) := by
  refine ⟨by rw [List.length_drop, h.len, Nat.sub_mul], ?_⟩
  rcases h.val with ⟨he, _⟩ | ⟨g', off0, cap0, he, hl, hc, hm, h1, h2⟩
  · cases he
  · cases he
    refine .inr ⟨g, off', cap', rfl, hl, hcap.1, by omega, fun j hj => ?_, fun j hj => ?_⟩
    · have hkn : k < n := by
        rcases Nat.lt_or_ge k n with h | h
        · exact h
        · rw [Nat.sub_eq_zero_of_le h, Nat.zero_mul] at hj; omega
      have hjl : k * size + j < n * size := by rw [Nat.sub_mul] at hj; omega
      rw [hoff (.inl hkn), Nat.add_assoc, h1 _ hjl, List.getElem?_drop]
    · have hc0 : 0 < cap' := by
        rcases Nat.eq_zero_or_pos cap' with h | h
        · rw [h, Nat.zero_mul] at hj; omega
        · exact h
      have hjl : k * size + j < cap * size := by
        have : (k + cap') * size ≤ cap * size := Nat.mul_le_mul_right _ hcap.2
        rw [Nat.add_mul] at this
        omega
      rw [hoff (.inr hc0), Nat.add_assoc]
      exact h2 _ hjl
section
variable {P : Program}
theorem run_append_sl (t tx ty e : TypeId) (i : TypeInfo) (z : Value) (size bytes : Nat) (ht : P.underlying t = some (.slice e)) (hi : P.info? e = some i) (hz : i.zero = some z) (hsize : i.size = size) (hby : i.bytes = bytes) (hzs : z.cells.size = size)
    {w : World} {v : Value} {n : Nat} {cs : List Value} (h : Sl w size v n cs) {x : Value} {m : Nat} {news : List Value} (hs : Src P size tx x m news w) (h63 : n + m ≤ maxLen) (hbytes : (n + m) * bytes ≤ 140737488355328) :
    ∃ A c w', (Builtin.append_ #[t, tx] ty #[v, x]).run P w = .ok (.slice A (n + m) c) w' ∧ Sl w' size (.slice A (n + m) c) (n + m) (cs ++ news) ∧ Chg w w' (fun k => v.ownBlock = some k) ∧
      ((Value.slice A (n + m) c).ownBlock = v.ownBlock ∨ (Value.slice A (n + m) c).ownBlock = some w.heap.size) ∧ (m = 0 → Value.slice A (n + m) c = v) := by
  subst hsize hby
  have hcl := h.len
  have hnl := hs.newsLen
  have hL : (cs ++ news).length = (n + m) * i.size := by rw [List.length_append, hcl, hnl, Nat.add_mul]
  have hsmall : n + m ≤ 9223372036854775807 := by simp only [maxLen] at h63; omega
  have grow : ∀ (bs : Option Addr) (sc : Nat), v = .slice bs n sc → sc < n + m → (Builtin.firstCells i.size n (.slice bs n sc)).run P w.drew = .ok cs.toArray w.drew →
      ∃ A c w', (Builtin.append_ #[t, tx] ty #[v, x]).run P w = .ok (.slice A (n + m) c) w' ∧ Sl w' i.size (.slice A (n + m) c) (n + m) (cs ++ news) ∧ Chg w w' (fun k => v.ownBlock = some k) ∧
        ((Value.slice A (n + m) c).ownBlock = v.ownBlock ∨ (Value.slice A (n + m) c).ownBlock = some w.heap.size) ∧ (m = 0 → Value.slice A (n + m) c = v) := by
    rintro bs sc rfl hg hold
    have hrun := run_append_grow_src (P := P) w t tx ty e i z ht hi hz bs n sc cs hold x m news hs hg (by omega) (growslice_fits hg hbytes)
    have hge := grownCap_ge w (n + m) sc e
    have hcm := grownCap_le_maxLen w (n + m) sc e h63
    have hcell : ∀ j, (w.drew.alloc (.cells ((cs ++ news).toArray ++ Builtin.zeroCells z.cells (grownCap w (n + m) sc e - (n + m))) e)).cell? ⟨w.heap.size, j, none⟩ = ((cs ++ news).toArray ++ Builtin.zeroCells z.cells (grownCap w (n + m) sc e - (n + m)))[j]? := fun j => World.cell?_alloc_new w.drew _ _ j
    refine ⟨_, _, _, hrun, ⟨hL, .inr ⟨w.heap.size, 0, _, rfl, by rw [World.size_alloc]; exact Nat.lt_succ_self _, hge, hcm, fun j hj => ?_, fun j hj => ⟨?_, ?_⟩⟩⟩, (Chg.of_drew w _).alloc _, .inr rfl, fun h0 => ?_⟩
    · rw [Nat.zero_add, hcell, Array.getElem?_append_left (by simp only [List.size_toArray]; rw [hL]; exact hj), List.getElem?_toArray]
    · have hsz : ((cs ++ news).toArray ++ Builtin.zeroCells z.cells (grownCap w (n + m) sc e - (n + m))).size = grownCap w (n + m) sc e * i.size := by
        rw [Array.size_append, List.size_toArray, hL, size_zeroCells, hzs, ← Nat.add_mul]
        congr 1
        omega
      rw [Nat.zero_add, hcell, Array.getElem?_eq_getElem (by rw [hsz]; exact hj)]
      rfl
    · exact World.frozen?_alloc_new w.drew _ _ _
    · subst h0
      rcases h.val with ⟨he, h1⟩ | ⟨g, off, cap, he, hl, hc, _⟩
      · cases he; omega
      · cases he; omega
  rcases h.val with ⟨rfl, rfl⟩ | ⟨g, off, cap, rfl, hl, hc, hm, h1, h2⟩
  · obtain rfl : cs = [] := List.eq_nil_of_length_eq_zero (by simpa using hcl)
    by_cases hm0 : m = 0
    · subst hm0
      obtain rfl : news = [] := List.eq_nil_of_length_eq_zero (by simpa using hnl)
      refine ⟨none, 0, w, run_append_nothing (P := P) w t tx ty e i ht hi none 0 0 (Nat.le_refl _) x hs, Sl.nil w i.size, Chg.refl w _, .inl rfl, fun _ => rfl⟩
    · exact grow none 0 rfl (by omega) (run_firstCells_none (P := P) w.drew i.size 0 0 0)
  · by_cases hroom : n + m ≤ cap
    · have hfit : n * i.size + news.length ≤ cap * i.size := by rw [hnl, ← Nat.add_mul]; exact Nat.mul_le_mul_right _ hroom
      have hsome : ∀ j, j < news.length → (w.cell? ⟨g, off + n * i.size + j, none⟩).isSome = true := fun j hj => by
        rw [Nat.add_assoc]; exact (h2 _ (by omega)).1
      have hrun := run_append_room_src (P := P) w t tx ty e i ht hi g off n cap x m news hs hroom hsome (fun j hj => by rw [Nat.add_assoc]; exact (h2 _ (by omega)).2)
      refine ⟨_, _, _, hrun, ⟨hL, .inr ⟨g, off, cap, rfl, ?_, hroom, hm, fun j hj => ?_, fun j hj => ⟨?_, ?_⟩⟩⟩, ?_, .inl rfl, fun h0 => by subst h0; rfl⟩
      · exact Nat.lt_of_lt_of_le hl (World.keptBut_setCells g (may := fun _ => True) news (off + n * i.size) w (fun _ _ => trivial)).size
      · by_cases hj2 : j < n * i.size
        · rw [World.cell?_setCells_out g _ _ _ _ (fun _ _ => Or.inl (by show off + j < off + n * i.size; omega)), h1 j hj2, List.getElem?_append_left (by omega)]
        · have hj3 : j - n * i.size < news.length := by rw [hnl]; rw [Nat.add_mul] at hj; omega
          have := World.cell?_setCells_in g news (off + n * i.size) w hsome (j - n * i.size) hj3
          rw [show off + n * i.size + (j - n * i.size) = off + j by omega] at this
          rw [this, List.getElem?_append_right (by omega), hcl, List.getElem?_eq_getElem hj3]
      · by_cases hj2 : off + n * i.size ≤ off + j ∧ off + j < off + n * i.size + news.length
        · have hj3 : j - n * i.size < news.length := by omega
          have := World.cell?_setCells_in g news (off + n * i.size) w hsome (j - n * i.size) hj3
          rw [show off + n * i.size + (j - n * i.size) = off + j by omega] at this
          rw [this]
          rfl
        · rw [World.cell?_setCells_out g _ _ _ _ (fun _ _ => by show off + j < off + n * i.size ∨ off + n * i.size + news.length ≤ off + j; omega)]
          exact (h2 j hj).1
      · rw [World.frozen?_setCells]
        exact (h2 j hj).2
      · have hch : ∀ (vs : List Value) (o : Nat) (w : World), Chg w (w.setCells g o vs) (fun k => k = g) := by
          intro vs
          induction vs with
          | nil => intro o w; exact Chg.refl _ _
          | cons v r ih => intro o w; exact (Chg.of_setCell w ⟨g, o, none⟩ v (fun k => k = g) rfl).trans (ih (o + 1) _) fun _ h _ => h
        exact (hch news _ w).mono fun k hk => by subst hk; rfl
    · refine grow _ cap rfl (by omega) ?_
      refine run_firstCells_some (P := P) w.drew i.size n ⟨g, off, none⟩ n cap cs hcl (fun j u hu => ?_)
      have hj : j < n * i.size := by
        rw [← hcl]
        exact (List.getElem?_eq_some_iff.1 hu).1
      rw [Addr.add_lit, World.cell?_drew, h1 j hj, hu]
theorem wpList_append_sl {w : World} {ops : Array Oper} {rest : List Oper} {o : Oper} {a : Act} {Q : Exit → Act → World → Prop} (hgd : o.guard = none) (s x : Operand) (t tx : TypeId)
    (ho : o.op = .call { callee := .builtin .append, args := #[s, x], argTypes := #[t, tx] })
    (e : TypeId) (i : TypeInfo) (z : Value) (size bytes : Nat) (ht : P.underlying t = some (.slice e)) (hi : P.info? e = some i) (hz : i.zero = some z) (hsize : i.size = size) (hby : i.bytes = bytes) (hzs : z.cells.size = size)
    {v : Value} {n : Nat} {cs : List Value} (hs : a.eval s = v) (h : Sl w size v n cs) {xv : Value} {m : Nat} {news : List Value} (hx : a.eval x = xv) (hsrc : Src P size tx xv m news w) (h63 : n + m ≤ maxLen) (hbytes : (n + m) * bytes ≤ 140737488355328)
    (k : ∀ A c w', Sl w' size (.slice A (n + m) c) (n + m) (cs ++ news) → Chg w w' (fun k => v.ownBlock = some k) → ((Value.slice A (n + m) c).ownBlock = v.ownBlock ∨ (Value.slice A (n + m) c).ownBlock = some w.heap.size) →
      (m = 0 → Value.slice A (n + m) c = v) → wpList P ops Q rest (a.put o.dst (.slice A (n + m) c)) w') : wpList P ops Q (o :: rest) a w :=
  wpList_plain hgd fun K hK => by
    obtain ⟨A, c, w', hr, h2, h3, h4, h5⟩ := run_append_sl (P := P) t tx o.type e i z size bytes ht hi hz hsize hby hzs h hsrc h63 hbytes
    unfold Oper.wp execOp
    simp only [ho, resolve, invoke, builtin, Sem.run_bind, Sem.run_pure, Result.andThen_ok, List.map_toArray, List.map_cons, List.map_nil, hs, hx, hr]
    exact hK _ _ (k A c w' h2 h3 h4 h5)
end
end Go
