/- Plain laws and walks: Open, Lift. -/
import Derived.ChangeSame
import Derived.ChangeArms
import Derived.OpenShut
import Derived.Deep.Slices
import Derived.SizedLaws
import Derived.Below
import Derived.Carry
import Derived.Test.YtpdlgflbcgemnaaGreatDoorGa
-- Open
/- Arguments that are read as data, opened: numbers, bools, texts, structs, arrays and slices of these, to any depth. Plain theorems over any program. -/
set_option linter.unusedSimpArgs false
set_option linter.unusedVariables false
set_option maxRecDepth 100000
namespace Go
open Go.RowKit Go.ChangeShapes Go.WideShapes Go.Deep

/-- The shape of a type: a struct and an array are pairs of their parts; of a slice the bytes of an element are told. -/
inductive Ty where
  | int (k : IntKind)
  | bool
  | str
  | unit
  | pair (a b : Ty)
  | slice (bytes : Nat) (t : Ty)
def Ty.size : Ty → Nat
  | .int _ | .bool | .str | .slice .. => 1
  | .unit => 0
  | .pair a b => a.size + b.size
@[reducible] def Ty.El : Ty → Type
  | .int _ => Int
  | .bool => Bool
  | .str => ByteArray
  | .unit => Unit
  | .pair a b => a.El × b.El
  | .slice _ t => List t.El
def fitsFields (f : TypeId → Ty → Bool) (cells : TypeId → Nat) : List Field → Nat → Ty → Bool
  | [], _, .unit => true
  | x :: r, off, .pair a b => x.offset == off && cells x.type == a.size && f x.type a && fitsFields f cells r (off + a.size) b
  | _, _, _ => false
def fitsArr (f : Ty → Bool) (cells : Nat) : Nat → Ty → Bool
  | 0, .unit => true
  | m + 1, .pair a b => cells == a.size && f a && fitsArr f cells m b
  | _, _ => false
def Ty.fits (P : Program) : Nat → TypeId → Ty → Bool
  | 0, _, _ => false
  | n + 1, t, ty =>
    match P.underlying t with
    | some (.int k) => (match ty with | .int k' => k == k' | _ => false)
    | some .bool => (match ty with | .bool => true | _ => false)
    | some .string => (match ty with | .str => true | _ => false)
    | some (.slice e) => (match ty with | .slice by' ty' => Ty.fits P n e ty' && P.cellsOf e == ty'.size && P.bytesOf e == by' && decide (0 < ty'.size) | _ => false)
    | some (.struct fs) => P.cellsOf t == ty.size && fitsFields (Ty.fits P n) P.cellsOf fs.toList 0 ty
    | some (.array m e) => P.cellsOf t == ty.size && fitsArr (Ty.fits P n e) (P.cellsOf e) m ty
    | _ => false

/-- What the cells of a value hold. -/
def Holds (w : World) : (t : Ty) → t.El → List Value → Prop
  | .int k, n, cs => cs = [.int k n] ∧ (Lit.int k n).wf = true
  | .bool, b, cs => cs = [.bool b]
  | .str, s, cs => cs = [.string s] ∧ s.size ≤ reachBytes
  | .unit, _, cs => cs = []
  | .pair a b, x, cs => ∃ c1 c2, cs = c1 ++ c2 ∧ c1.length = a.size ∧ Holds w a x.1 c1 ∧ Holds w b x.2 c2
  | .slice by' t, xs, cs => ∃ (A : Option Addr) (c : Nat), cs = [.slice A xs.length c] ∧ xs.length ≤ c ∧ c * by' ≤ reachBytes ∧ c ≤ maxLen ∧
      (0 < xs.length → ∃ b off, A = some ⟨b, off, none⟩ ∧ b < w.heap.size ∧ ∀ (i : Nat) (x : t.El), xs[i]? = some x → ∃ row : List Value, row.length = t.size ∧
        (∀ (j : Nat) (u : Value), row[j]? = some u → w.cell? ⟨b, off + (i * t.size + j), none⟩ = some u) ∧ Holds w t x row)

section
variable {H : Type} {enc : TypeId × Value → H} {P : Program} {w : World}

theorem weights_agg_struct {t : TypeId} {fs : Array Field} (ht : P.underlying t = some (.struct fs)) (parts : List (DataW H)) :
    (DataW.agg parts).weights P t = DataW.weightsEach P (fs.toList.map (·.type)) parts := by
  simp only [DataW.weights, ht]
theorem weights_agg_array {t e : TypeId} {m : Nat} (ht : P.underlying t = some (.array m e)) (parts : List (DataW H)) :
    (DataW.agg parts).weights P t = DataW.weightsAll P e parts := by
  simp only [DataW.weights, ht]
theorem weightsAll_mem {e : TypeId} {l : List (DataW H)} {d : DataW H} (hd : d ∈ l) {m : Nat} (hm : m ∈ d.weights P e) : m ∈ DataW.weightsAll P e l := by
  induction l with
  | nil => cases hd
  | cons x r ih =>
    simp only [DataW.weightsAll, List.mem_append]
    rcases List.mem_cons.1 hd with rfl | h
    · exact .inl hm
    · exact .inr (ih h)

/-- all weights of a datum are within the reach -/
def Light (P : Program) (t : TypeId) (d : DataW H) : Prop := ∀ m ∈ d.weights P t, m ≤ reachBytes

theorem open_fields {n : Nat} (ih : ∀ (t : TypeId) (ty : Ty) (fuel : Nat) (cs : List Value) (x : DataW H × List MemPlace), Ty.fits P n t ty = true →
      DataW.trod enc P w 0 (fun _ => true) true fuel t cs = some x → Light P t x.1 → ∃ v, Holds w ty v cs) (fuel : Nat) (cs : List Value) :
    ∀ (fs : List Field) (off : Nat) (ty : Ty) (ys : List (DataW H × List MemPlace)), fitsFields (Ty.fits P n) P.cellsOf fs off ty = true → cs.length = off + ty.size → ys.length = fs.length →
      (∀ (i : Nat) (f : Field), fs[i]? = some f → DataW.trod enc P w 0 (fun _ => true) true fuel f.type ((cs.drop f.offset).take (P.cellsOf f.type)) = ys[i]?) →
      (∀ m ∈ DataW.weightsEach P (fs.map (·.type)) (ys.map (·.1)), m ≤ reachBytes) → ∃ v, Holds w ty v (cs.drop off)
  | [], off, .unit, ys, _, hl, _, _, _ => ⟨(), by simp only [Holds]; rw [List.drop_eq_nil_iff]; simp only [Ty.size] at hl; omega⟩
  | f :: r, off, .pair a b, ys, hf, hl, hy, hi, hw => by
    simp only [fitsFields, Bool.and_eq_true, beq_iff_eq] at hf
    obtain ⟨⟨⟨ho, hc⟩, hfa⟩, hr⟩ := hf
    simp only [Ty.size] at hl
    match ys, hy with
    | y :: ys, hy =>
      have h0 := hi 0 f rfl
      rw [ho, hc] at h0
      simp only [List.map_cons, DataW.weightsEach, List.mem_append] at hw
      obtain ⟨v1, hv1⟩ := ih _ _ _ _ _ hfa h0 (fun m hm => hw m (.inl hm))
      obtain ⟨v2, hv2⟩ := open_fields ih fuel cs r (off + a.size) b ys hr (by omega) (by simpa using hy) (fun i f' hf' => by simpa using hi (i + 1) f' (by simpa using hf')) (fun m hm => hw m (.inr hm))
      refine ⟨(v1, v2), (cs.drop off).take a.size, cs.drop (off + a.size), ?_, by simp; omega, hv1, hv2⟩
      rw [← List.drop_drop, List.take_append_drop]
  | [], _, .int _, _, hf, _, _, _, _ | [], _, .bool, _, hf, _, _, _, _ | [], _, .str, _, hf, _, _, _, _ | [], _, .pair _ _, _, hf, _, _, _, _ | [], _, .slice _ _, _, hf, _, _, _, _ => by simp [fitsFields] at hf
  | _ :: _, _, .int _, _, hf, _, _, _, _ | _ :: _, _, .bool, _, hf, _, _, _, _ | _ :: _, _, .str, _, hf, _, _, _, _ | _ :: _, _, .unit, _, hf, _, _, _, _ | _ :: _, _, .slice _ _, _, hf, _, _, _, _ => by simp [fitsFields] at hf

theorem open_arr {n : Nat} {e : TypeId} (ih : ∀ (ty : Ty) (fuel : Nat) (cs : List Value) (x : DataW H × List MemPlace), Ty.fits P n e ty = true →
      DataW.trod enc P w 0 (fun _ => true) true fuel e cs = some x → Light P e x.1 → ∃ v, Holds w ty v cs) (fuel : Nat) (cs : List Value) :
    ∀ (m k : Nat) (ty : Ty) (ys : List (DataW H × List MemPlace)), fitsArr (Ty.fits P n e) (P.cellsOf e) m ty = true → cs.length = k * P.cellsOf e + ty.size → ys.length = k + m →
      (∀ i, i < k + m → DataW.trod enc P w 0 (fun _ => true) true fuel e ((cs.drop (i * P.cellsOf e)).take (P.cellsOf e)) = ys[i]?) →
      (∀ d ∈ ys.map (·.1), Light P e d) → ∃ v, Holds w ty v (cs.drop (k * P.cellsOf e))
  | 0, k, .unit, ys, _, hl, _, _, _ => ⟨(), by simp only [Holds]; rw [List.drop_eq_nil_iff]; simp only [Ty.size] at hl; omega⟩
  | m + 1, k, .pair a b, ys, hf, hl, hy, hi, hw => by
    simp only [fitsArr, Bool.and_eq_true, beq_iff_eq] at hf
    obtain ⟨⟨hc, hfa⟩, hr⟩ := hf
    simp only [Ty.size] at hl
    have hk : k < ys.length := by omega
    have h0 := hi k (by omega)
    rw [List.getElem?_eq_getElem hk] at h0
    obtain ⟨v1, hv1⟩ := ih _ _ _ _ hfa h0 (hw _ (List.mem_map.2 ⟨_, List.getElem_mem hk, rfl⟩))
    obtain ⟨v2, hv2⟩ := open_arr ih fuel cs m (k + 1) b ys hr (by rw [Nat.succ_mul]; omega) (by omega) (fun i h => hi i (by omega)) hw
    refine ⟨(v1, v2), _, _, ?_, ?_, hv1, hv2⟩
    · rw [Nat.succ_mul, ← List.drop_drop, List.take_append_drop]
    · simp; omega
  | 0, _, .int _, _, hf, _, _, _, _ | 0, _, .bool, _, hf, _, _, _, _ | 0, _, .str, _, hf, _, _, _, _ | 0, _, .pair _ _, _, hf, _, _, _, _ | 0, _, .slice _ _, _, hf, _, _, _, _ => by simp [fitsArr] at hf
  | _ + 1, _, .int _, _, hf, _, _, _, _ | _ + 1, _, .bool, _, hf, _, _, _, _ | _ + 1, _, .str, _, hf, _, _, _, _ | _ + 1, _, .unit, _, hf, _, _, _, _ | _ + 1, _, .slice _ _, _, hf, _, _, _, _ => by simp [fitsArr] at hf

theorem open_any (n : Nat) : ∀ (t : TypeId) (ty : Ty) (fuel : Nat) (cs : List Value) (x : DataW H × List MemPlace), Ty.fits P n t ty = true →
    DataW.trod enc P w 0 (fun _ => true) true fuel t cs = some x → Light P t x.1 → ∃ v, Holds w ty v cs := by
  induction n with
  | zero => intro t ty fuel cs x hf; simp [Ty.fits] at hf
  | succ n ih =>
    intro t ty fuel cs x hf hx hw
    unfold Ty.fits at hf
    split at hf
    · rename_i k ht
      cases ty <;> simp only [Bool.false_eq_true, beq_iff_eq] at hf
      subst hf
      obtain ⟨m, rfl, _, hm⟩ := DataW.trod_int ht hx
      exact ⟨m, rfl, hm⟩
    · rename_i ht
      cases ty <;> simp only [Bool.false_eq_true] at hf
      obtain ⟨b, rfl, _⟩ := DataW.trod_bool ht hx
      exact ⟨b, rfl⟩
    · rename_i ht
      cases ty <;> simp only [Bool.false_eq_true] at hf
      obtain ⟨s, rfl, rfl, _⟩ := DataW.trod_string ht hx
      refine ⟨s, rfl, ?_⟩
      have := hw s.data.toList.length (by simp [DataW.weights])
      simpa using this
    · rename_i e ht
      cases ty <;> simp only [Bool.false_eq_true, Bool.and_eq_true, beq_iff_eq, decide_eq_true_eq] at hf
      rename_i by' ty'
      obtain ⟨⟨⟨hfe, hce⟩, hbe⟩, hpos⟩ := hf
      rcases open_slice ht hx with ⟨rfl, rfl⟩ | ⟨a, len, cap, m, n', D, Pl, rfl, _, hl, hm, hmm, rfl, hi⟩
      · exact ⟨([] : List ty'.El), none, 0, rfl, Nat.le_refl _, by simp, by simp [maxLen], fun h => absurd h (by simp)⟩
      · simp only [if_true] at hmm
        subst hmm
        have hwm : ∀ d, d ∈ (List.range len).map D ++ (List.range (m - len)).map (fun j => D (len + j)) → Light P e d := by
          intro d hd k hk
          refine hw k ?_
          simp only [DataW.weights, ht, List.mem_cons, List.mem_append]
          refine .inr ?_
          rcases List.mem_append.1 hd with h | h
          · exact .inl (weightsAll_mem h hk)
          · exact .inr (weightsAll_mem h hk)
        have hcap : m * by' ≤ reachBytes := by
          have := hw ((((List.range len).map D).length + ((List.range (m - len)).map (fun j => D (len + j))).length) * P.bytesOf e) (by simp only [DataW.weights, ht]; exact List.mem_cons_self)
          simp only [List.length_map, List.length_range] at this
          rw [hbe, show len + (m - len) = m by omega] at this
          exact this
        have each : ∀ i, i < len → ∃ v : ty'.El, ∃ row : List Value, row.length = ty'.size ∧ (∀ (j : Nat) (u : Value), row[j]? = some u → w.cell? (a.add (i * ty'.size + j)) = some u) ∧ Holds w ty' v row := by
          intro i hil
          obtain ⟨cs', hc, ht'⟩ := hi i (by omega)
          obtain ⟨v, hv⟩ := ih e ty' n' cs' (D i, Pl i) hfe ht' (hwm _ (List.mem_append.2 (.inl (List.mem_map.2 ⟨i, List.mem_range.2 hil, rfl⟩))))
          obtain ⟨_, hcl, hat⟩ := World.cells?_some hc
          rw [hce] at hcl hat
          refine ⟨v, cs', hcl, fun j u hu => ?_, hv⟩
          have hjl : j < cs'.length := (List.getElem?_eq_some_iff.1 hu).1
          have h1 := hat j (by omega)
          rw [← Go.Deep.add_add, h1, hu]
        have ne : ∀ (h0 : 0 < len), Nonempty ty'.El := fun h0 => let ⟨v, _⟩ := each 0 h0; ⟨v⟩
        by_cases h0 : len = 0
        · subst h0
          exact ⟨([] : List ty'.El), some a, m, rfl, by simp, hcap, hm, fun h => absurd h (by simp)⟩
        · obtain ⟨d0⟩ := ne (by omega)
          haveI : Inhabited ty'.El := ⟨d0⟩
          obtain ⟨F, hF⟩ := choose_lt each
          have hspot : a.spot = none ∧ a.block < w.heap.size := by
            obtain ⟨row, hrl, hrc, _⟩ := hF 0 (by omega)
            have h1 : row[0]? = some (row[0]'(by omega)) := List.getElem?_eq_getElem (by omega)
            have h2 := hrc 0 _ h1
            simp only [Nat.zero_mul, Nat.add_zero] at h2
            rw [show a.add 0 = a from rfl] at h2
            refine ⟨?_, World.block_lt_of_cell? w a h2⟩
            unfold World.cell? at h2
            split at h2
            · cases hs : a.spot with
              | none => rfl
              | some _ => rw [hs] at h2; simp at h2
            · cases h2
          refine ⟨((List.range len).map F : List ty'.El), some a, m, by simp, by simpa using hl, hcap, hm, fun _ => ⟨a.block, a.off, ?_, hspot.2, fun i x hx' => ?_⟩⟩
          · rw [← hspot.1]
          · have hil : i < len := by simpa using (List.getElem?_eq_some_iff.1 hx').1
            have hxe : x = F i := by simpa [hil] using hx'.symm
            subst hxe
            obtain ⟨row, hrl, hrc, hrh⟩ := hF i hil
            refine ⟨row, hrl, fun j u hu => ?_, hrh⟩
            have h3 := hrc j u hu
            rw [← h3]
            congr 1
            unfold Addr.add
            split
            · rename_i h4
              rw [h4, ← hspot.1]
              rfl
            · rfl
    · rename_i fs ht
      simp only [Bool.and_eq_true, beq_iff_eq] at hf
      obtain ⟨ys, n', rfl, rfl, hlen, hyl, hg⟩ := DataW.trod_struct ht hx
      have := open_fields (P := P) (w := w) (enc := enc) (n := n) ih n' cs fs.toList 0 ty ys hf.2 (by rw [hlen, hf.1]; omega) (by simpa using hyl)
        (fun i f h => hg i f (by simpa using h)) (fun m hm => hw m (by rw [weights_agg_struct ht]; exact hm))
      simpa using this
    · rename_i m e ht
      simp only [Bool.and_eq_true, beq_iff_eq] at hf
      obtain ⟨ys, n', rfl, rfl, hlen, hyl, hg⟩ := DataW.trod_array ht hx
      have := open_arr (P := P) (w := w) (enc := enc) (n := n) (e := e) (fun ty => ih e ty) n' cs m 0 ty ys hf.2 (by rw [hlen, hf.1]; omega) (by omega)
        (fun i h => hg i (by omega)) (fun d hd k hk => hw k (by rw [weights_agg_array ht]; exact weightsAll_mem hd hk))
      simpa using this
    · simp at hf
end
end Go
-- Lift
/- From a walk that returns true, and lays new memory alone, to the row's step: plain theorems over any program. -/
set_option linter.unusedSimpArgs false
set_option linter.unusedVariables false
namespace Go
open Go.RowKit Go.ChangeShapes Go.WideShapes Go.Deep

/-- A type without slices. -/
def Ty.flat : Ty → Bool
  | .pair a b => a.flat && b.flat
  | .slice .. => false
  | _ => true
/-- The cells of a value of a type without slices. -/
def Ty.cells : (t : Ty) → t.El → List Value
  | .int k, n => [.int k n]
  | .bool, b => [.bool b]
  | .str, s => [.string s]
  | .unit, _ => []
  | .pair a b, x => a.cells x.1 ++ b.cells x.2
  | .slice _ _, _ => []
/-- Its numbers are within their kinds, its texts within the reach. -/
def Ty.Wf : (t : Ty) → t.El → Prop
  | .int k, n => (Lit.int k n).wf = true
  | .bool, _ => True
  | .str, s => s.size ≤ reachBytes
  | .unit, _ => True
  | .pair a b, x => a.Wf x.1 ∧ b.Wf x.2
  | .slice _ _, _ => True
theorem Holds.flat {w : World} : ∀ {t : Ty} {x : t.El} {cs : List Value}, t.flat = true → Holds w t x cs → cs = t.cells x ∧ t.Wf x
  | .int _, _, _, _, h => h
  | .bool, _, _, _, h => ⟨h, trivial⟩
  | .str, _, _, _, h => h
  | .unit, _, _, _, h => ⟨h, trivial⟩
  | .pair a b, x, cs, hf, h => by
    simp only [Ty.flat, Bool.and_eq_true] at hf
    obtain ⟨c1, c2, rfl, _, h1, h2⟩ := h
    obtain ⟨e1, w1⟩ := h1.flat hf.1
    obtain ⟨e2, w2⟩ := h2.flat hf.2
    exact ⟨by rw [e1, e2]; rfl, w1, w2⟩
  | .slice _ _, _, _, hf, _ => by simp [Ty.flat] at hf
theorem Ty.cells_length : ∀ (t : Ty) (x : t.El), t.flat = true → (t.cells x).length = t.size
  | .int _, _, _ => rfl
  | .bool, _, _ => rfl
  | .str, _, _ => rfl
  | .unit, _, _ => rfl
  | .pair a b, x, hf => by
    simp only [Ty.flat, Bool.and_eq_true] at hf
    simp only [Ty.cells, List.length_append, Ty.size, Ty.cells_length a _ hf.1, Ty.cells_length b _ hf.2]
  | .slice _ _, _, hf => by simp [Ty.flat] at hf
/-- A slice of a type without slices, as the walks take it. -/
theorem Holds.rows {w : World} {by' : Nat} {t : Ty} {xs : List t.El} {cs : List Value} (hf : t.flat = true) (h : Holds w (.slice by' t) xs cs) :
    ∃ (A : Option Addr) (c : Nat), cs = [.slice A xs.length c] ∧ xs.length ≤ c ∧ c * by' ≤ reachBytes ∧ c ≤ maxLen ∧ (∀ x ∈ xs, t.Wf x) ∧
      ∀ g : Nat → Nat → Value, (∀ (i j : Nat) (x : t.El), xs[i]? = some x → j < t.size → (t.cells x)[j]? = some (g i j)) → RowsAt w A t.size xs.length g := by
  obtain ⟨A, c, hcs, h1, h2, h3, h4⟩ := h
  refine ⟨A, c, hcs, h1, h2, h3, fun x hx => ?_, fun g hg hn => ?_⟩
  · obtain ⟨i, hi, rfl⟩ := List.getElem_of_mem hx
    obtain ⟨_, _, _, _, hr⟩ := h4 (by omega)
    obtain ⟨row, _, _, hh⟩ := hr i _ (List.getElem?_eq_getElem hi)
    exact (hh.flat hf).2
  · obtain ⟨b, off, hA, hb, hr⟩ := h4 hn
    refine ⟨b, off, hA, hb, fun i j hi hj => ?_⟩
    obtain ⟨row, _, hc, hh⟩ := hr i _ (List.getElem?_eq_getElem hi)
    refine hc j _ ?_
    rw [(hh.flat hf).1]
    exact hg i j _ (List.getElem?_eq_getElem hi) hj

/-- How a value is made of its cells. -/
def Ty.Is : Ty → Value → List Value → Prop
  | .pair _ _, v, cs | .unit, v, cs => v = .agg cs.toArray
  | _, v, cs => cs = [v]
section
variable {H : Type} {enc : TypeId × Value → H} {P : Program} {w : World}
theorem open_arg {n : Nat} {t : TypeId} {ty : Ty} {v : Value} {d : DataW H} {p : List MemPlace} {r : Reach} {b0 : Nat} (hf : Ty.fits P n t ty = true) (hval : Value.okWide P w r b0 t v)
    (ht : DataW.Trod enc P w 0 (fun _ => true) true t v d p) (hw : Light P t d) : ∃ x cs, Holds w ty x cs ∧ ty.Is v cs := by
  obtain ⟨fuel, hx⟩ := ht
  obtain ⟨x, h⟩ := open_any (P := P) (w := w) n t ty fuel _ _ hf hx hw
  refine ⟨x, _, h, ?_⟩
  cases n with
  | zero => simp [Ty.fits] at hf
  | succ n =>
    unfold Ty.fits at hf
    split at hf
    · rename_i k hk
      cases ty <;> simp only [Bool.false_eq_true] at hf
      obtain ⟨m, rfl⟩ := okWide_int hk hval
      rfl
    · rename_i hk
      cases ty <;> simp only [Bool.false_eq_true] at hf
      obtain ⟨m, rfl⟩ := okWide_bool hk hval
      rfl
    · rename_i hk
      cases ty <;> simp only [Bool.false_eq_true] at hf
      obtain ⟨m, rfl⟩ := okWide_string hk hval
      rfl
    · rename_i e hk
      cases ty <;> simp only [Bool.false_eq_true] at hf
      obtain ⟨_, _, _, rfl⟩ := okWide_slice hk hval
      rfl
    · rename_i fs hk
      obtain ⟨cs, rfl, _⟩ := okWide_struct hk hval
      obtain ⟨l⟩ := cs
      simp only [Bool.and_eq_true] at hf
      cases ty with
      | pair a b => rfl
      | unit => rfl
      | _ => cases hfs : fs.toList <;> rw [hfs] at hf <;> simp [fitsFields] at hf
    · rename_i m e hk
      obtain ⟨cs, rfl, _⟩ : ∃ cs, v = .agg cs ∧ cs.size = P.cellsOf t := by
        simp only [Value.okWide, hk] at hval
        obtain ⟨cs, h1, h2, _⟩ := hval
        exact ⟨cs, h1, h2⟩
      obtain ⟨l⟩ := cs
      simp only [Bool.and_eq_true] at hf
      cases ty with
      | pair a b => rfl
      | unit => rfl
      | _ => cases m <;> simp [fitsArr] at hf
    · simp at hf

theorem trodAll_stays {W W' : World} (hl : laidOutB P = true) (hb : Below W.heap.size W W') : ∀ {ts : List TypeId} {vs : List Value} {ds : List (DataW H)} {p : List MemPlace},
    (ts.all fun t => P.readableRec t && decide (t < P.types.size)) = true → (∀ x ∈ p, x.block < W.heap.size) →
    DataW.TrodAll enc P W 0 (fun _ => true) true ts vs ds p → DataW.TrodAll enc P W' 0 (fun b => decide (b < W.heap.size)) true ts vs ds p
  | [], [], [], _, _, _, h => h
  | t :: ts, v :: vs, d :: ds, p, hr, hlt, h => by
    obtain ⟨p1, q, h1, h2, rfl⟩ := h
    simp only [List.all_cons, Bool.and_eq_true, decide_eq_true_eq] at hr
    exact ⟨p1, q, Below.trod hl hr.1.1 hr.1.2 h1 hb (fun x hx => hlt x (List.mem_append_left _ hx)), trodAll_stays hl hb hr.2 (fun x hx => hlt x (List.mem_append_right _ hx)) h2, rfl⟩
  | [], _ :: _, _, _, _, _, h => h.elim
  | [], [], _ :: _, _, _, _, h => h.elim
  | _ :: _, [], _, _, _, _, h => h.elim
  | _ :: _, _ :: _, [], _, _, _, h => h.elim

/-- The row's step: the call returned true, and below the old heap's end nothing has turned. -/
theorem post_true {f : Func} {s : ChangeSpec} {W W' : World} {args : Array Value} {ds gs : List (DataW H)} {before : List MemPlace} {tb : TypeId}
    (hW : DataW.Whole enc P f.params.toList s.vars false W args.toList ds gs before) (hsv : s.vars = [])
    (hres : (s.fn H (ds ++ gs)).results = [.lit (.bool true)]) (hargs : (s.fn H (ds ++ gs)).args = ds) (hvars : (s.fn H (ds ++ gs)).vars = [])
    (hl : laidOutB P = true) (hr : (f.params.toList.all fun t => P.readableRec t && decide (t < P.types.size)) = true)
    (ht : f.resultTypes = #[tb]) (hb : P.underlying tb = some .bool) (hbel : Below W.heap.size W W') :
    s.post enc P f false true false false W args (.bool true) W' := by
  have hW' := hW
  obtain ⟨p, q, hA, hV, rfl, _, _⟩ := hW
  rw [hsv] at hV
  match gs, q, hV with
  | [], [], _ =>
    refine ⟨ds, [], _, [], p, [], hW', ?_, ?_, ?_, hbel.frame _, fun h => by cases h⟩
    · rw [hres, ht]
      exact trodAll_cons_mk (shut_bool hb true) trodAll_mk0
    · rw [hargs]
      exact trodAll_stays hl hbel hr (fun x hx => hW'.lt x (by simpa using hx)) hA
    · rw [hvars, hsv]
      exact rfl
  | [], _ :: _, h => simp [DataW.TrodVars] at h
  | _ :: _, _, h => simp [DataW.TrodVars] at h
end
end Go
