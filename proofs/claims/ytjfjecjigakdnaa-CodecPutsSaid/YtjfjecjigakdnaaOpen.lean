/- Arguments that are read as data, opened: numbers, bools, texts, structs, arrays and slices of these, to any depth. Plain theorems over any program. -/
import Derived.ChangeSame
import Derived.ChangeArms
import Derived.OpenShut
import Derived.Deep.Slices
import Derived.SizedLaws
import Derived.Below
import Derived.Carry
set_option linter.unusedSimpArgs false
set_option linter.unusedVariables false
namespace Go
open Go.RowKit Go.ChangeShapes Go.WideShapes Go.Deep

/-- The shape of a type: a struct and an array are pairs of their parts; of a slice the bytes of an element are told. -/
inductive Ty where
  | int (k : IntKind)
  | bool
  | str
  | unit
  | pair (a b : Ty)
  | slice (bytes : Nat) (t : Ty)
def Ty.size : Ty → Nat
  | .int _ | .bool | .str | .slice .. => 1
  | .unit => 0
  | .pair a b => a.size + b.size
@[reducible] def Ty.El : Ty → Type
  | .int _ => Int
  | .bool => Bool
  | .str => ByteArray
  | .unit => Unit
  | .pair a b => a.El × b.El
  | .slice _ t => List t.El
def fitsFields (f : TypeId → Ty → Bool) (cells : TypeId → Nat) : List Field → Nat → Ty → Bool
  | [], _, .unit => true
  | x :: r, off, .pair a b => x.offset == off && cells x.type == a.size && f x.type a && fitsFields f cells r (off + a.size) b
  | _, _, _ => false
def fitsArr (f : Ty → Bool) (cells : Nat) : Nat → Ty → Bool
  | 0, .unit => true
  | m + 1, .pair a b => cells == a.size && f a && fitsArr f cells m b
  | _, _ => false
def Ty.fits (P : Program) : Nat → TypeId → Ty → Bool
  | 0, _, _ => false
  | n + 1, t, ty =>
    match P.underlying t with
    | some (.int k) => (match ty with | .int k' => k == k' | _ => false)
    | some .bool => (match ty with | .bool => true | _ => false)
    | some .string => (match ty with | .str => true | _ => false)
    | some (.slice e) => (match ty with | .slice by' ty' => Ty.fits P n e ty' && P.cellsOf e == ty'.size && P.bytesOf e == by' && decide (0 < ty'.size) | _ => false)
    | some (.struct fs) => P.cellsOf t == ty.size && fitsFields (Ty.fits P n) P.cellsOf fs.toList 0 ty
    | some (.array m e) => P.cellsOf t == ty.size && fitsArr (Ty.fits P n e) (P.cellsOf e) m ty
    | _ => false

/-- What the cells of a value hold. -/
def Holds (w : World) : (t : Ty) → t.El → List Value → Prop
  | .int k, n, cs => cs = [.int k n] ∧ (Lit.int k n).wf = true
  | .bool, b, cs => cs = [.bool b]
  | .str, s, cs => cs = [.string s] ∧ s.size ≤ reachBytes
  | .unit, _, cs => cs = []
  | .pair a b, x, cs => ∃ c1 c2, cs = c1 ++ c2 ∧ c1.length = a.size ∧ Holds w a x.1 c1 ∧ Holds w b x.2 c2
  | .slice by' t, xs, cs => ∃ (A : Option Addr) (c : Nat), cs = [.slice A xs.length c] ∧ xs.length ≤ c ∧ c * by' ≤ reachBytes ∧ c ≤ maxLen ∧
      (0 < xs.length → ∃ b off, A = some ⟨b, off, none⟩ ∧ b < w.heap.size ∧ ∀ (i : Nat) (x : t.El), xs[i]? = some x → ∃ row : List Value, row.length = t.size ∧
        (∀ (j : Nat) (u : Value), row[j]? = some u → w.cell? ⟨b, off + (i * t.size + j), none⟩ = some u) ∧ Holds w t x row)

section
variable {H : Type} {enc : TypeId × Value → H} {P : Program} {w : World}

theorem weights_agg_struct {t : TypeId} {fs : Array Field} (ht : P.underlying t = some (.struct fs)) (parts : List (DataW H)) :
    (DataW.agg parts).weights P t = DataW.weightsEach P (fs.toList.map (·.type)) parts := by
  simp only [DataW.weights, ht]
theorem weights_agg_array {t e : TypeId} {m : Nat} (ht : P.underlying t = some (.array m e)) (parts : List (DataW H)) :
    (DataW.agg parts).weights P t = DataW.weightsAll P e parts := by
  simp only [DataW.weights, ht]
theorem weightsAll_mem {e : TypeId} {l : List (DataW H)} {d : DataW H} (hd : d ∈ l) {m : Nat} (hm : m ∈ d.weights P e) : m ∈ DataW.weightsAll P e l := by
  induction l with
  | nil => cases hd
  | cons x r ih =>
    simp only [DataW.weightsAll, List.mem_append]
    rcases List.mem_cons.1 hd with rfl | h
    · exact .inl hm
    · exact .inr (ih h)

/-- all weights of a datum are within the reach -/
def Light (P : Program) (t : TypeId) (d : DataW H) : Prop := ∀ m ∈ d.weights P t, m ≤ reachBytes

theorem open_fields {n : Nat} (ih : ∀ (t : TypeId) (ty : Ty) (fuel : Nat) (cs : List Value) (x : DataW H × List MemPlace), Ty.fits P n t ty = true →
      DataW.trod enc P w 0 (fun _ => true) true fuel t cs = some x → Light P t x.1 → ∃ v, Holds w ty v cs) (fuel : Nat) (cs : List Value) :
    ∀ (fs : List Field) (off : Nat) (ty : Ty) (ys : List (DataW H × List MemPlace)), fitsFields (Ty.fits P n) P.cellsOf fs off ty = true → cs.length = off + ty.size → ys.length = fs.length →
      (∀ (i : Nat) (f : Field), fs[i]? = some f → DataW.trod enc P w 0 (fun _ => true) true fuel f.type ((cs.drop f.offset).take (P.cellsOf f.type)) = ys[i]?) →
      (∀ m ∈ DataW.weightsEach P (fs.map (·.type)) (ys.map (·.1)), m ≤ reachBytes) → ∃ v, Holds w ty v (cs.drop off)
  | [], off, .unit, ys, _, hl, _, _, _ => ⟨(), by simp only [Holds]; rw [List.drop_eq_nil_iff]; simp only [Ty.size] at hl; omega⟩
  | f :: r, off, .pair a b, ys, hf, hl, hy, hi, hw => by
    simp only [fitsFields, Bool.and_eq_true, beq_iff_eq] at hf
    obtain ⟨⟨⟨ho, hc⟩, hfa⟩, hr⟩ := hf
    simp only [Ty.size] at hl
    match ys, hy with
    | y :: ys, hy =>
      have h0 := hi 0 f rfl
      rw [ho, hc] at h0
      simp only [List.map_cons, DataW.weightsEach, List.mem_append] at hw
      obtain ⟨v1, hv1⟩ := ih _ _ _ _ _ hfa h0 (fun m hm => hw m (.inl hm))
      obtain ⟨v2, hv2⟩ := open_fields ih fuel cs r (off + a.size) b ys hr (by omega) (by simpa using hy) (fun i f' hf' => by simpa using hi (i + 1) f' (by simpa using hf')) (fun m hm => hw m (.inr hm))
      refine ⟨(v1, v2), (cs.drop off).take a.size, cs.drop (off + a.size), ?_, by simp; omega, hv1, hv2⟩
      rw [← List.drop_drop, List.take_append_drop]
  | [], _, .int _, _, hf, _, _, _, _ | [], _, .bool, _, hf, _, _, _, _ | [], _, .str, _, hf, _, _, _, _ | [], _, .pair _ _, _, hf, _, _, _, _ | [], _, .slice _ _, _, hf, _, _, _, _ => by simp [fitsFields] at hf
  | _ :: _, _, .int _, _, hf, _, _, _, _ | _ :: _, _, .bool, _, hf, _, _, _, _ | _ :: _, _, .str, _, hf, _, _, _, _ | _ :: _, _, .unit, _, hf, _, _, _, _ | _ :: _, _, .slice _ _, _, hf, _, _, _, _ => by simp [fitsFields] at hf

theorem open_arr {n : Nat} {e : TypeId} (ih : ∀ (ty : Ty) (fuel : Nat) (cs : List Value) (x : DataW H × List MemPlace), Ty.fits P n e ty = true →
      DataW.trod enc P w 0 (fun _ => true) true fuel e cs = some x → Light P e x.1 → ∃ v, Holds w ty v cs) (fuel : Nat) (cs : List Value) :
    ∀ (m k : Nat) (ty : Ty) (ys : List (DataW H × List MemPlace)), fitsArr (Ty.fits P n e) (P.cellsOf e) m ty = true → cs.length = k * P.cellsOf e + ty.size → ys.length = k + m →
      (∀ i, i < k + m → DataW.trod enc P w 0 (fun _ => true) true fuel e ((cs.drop (i * P.cellsOf e)).take (P.cellsOf e)) = ys[i]?) →
      (∀ d ∈ ys.map (·.1), Light P e d) → ∃ v, Holds w ty v (cs.drop (k * P.cellsOf e))
  | 0, k, .unit, ys, _, hl, _, _, _ => ⟨(), by simp only [Holds]; rw [List.drop_eq_nil_iff]; simp only [Ty.size] at hl; omega⟩
  | m + 1, k, .pair a b, ys, hf, hl, hy, hi, hw => by
    simp only [fitsArr, Bool.and_eq_true, beq_iff_eq] at hf
    obtain ⟨⟨hc, hfa⟩, hr⟩ := hf
    simp only [Ty.size] at hl
    have hk : k < ys.length := by omega
    have h0 := hi k (by omega)
    rw [List.getElem?_eq_getElem hk] at h0
    obtain ⟨v1, hv1⟩ := ih _ _ _ _ hfa h0 (hw _ (List.mem_map.2 ⟨_, List.getElem_mem hk, rfl⟩))
    obtain ⟨v2, hv2⟩ := open_arr ih fuel cs m (k + 1) b ys hr (by rw [Nat.succ_mul]; omega) (by omega) (fun i h => hi i (by omega)) hw
    refine ⟨(v1, v2), _, _, ?_, ?_, hv1, hv2⟩
    · rw [Nat.succ_mul, ← List.drop_drop, List.take_append_drop]
    · simp; omega
  | 0, _, .int _, _, hf, _, _, _, _ | 0, _, .bool, _, hf, _, _, _, _ | 0, _, .str, _, hf, _, _, _, _ | 0, _, .pair _ _, _, hf, _, _, _, _ | 0, _, .slice _ _, _, hf, _, _, _, _ => by simp [fitsArr] at hf
  | _ + 1, _, .int _, _, hf, _, _, _, _ | _ + 1, _, .bool, _, hf, _, _, _, _ | _ + 1, _, .str, _, hf, _, _, _, _ | _ + 1, _, .unit, _, hf, _, _, _, _ | _ + 1, _, .slice _ _, _, hf, _, _, _, _ => by simp [fitsArr] at hf

theorem open_any (n : Nat) : ∀ (t : TypeId) (ty : Ty) (fuel : Nat) (cs : List Value) (x : DataW H × List MemPlace), Ty.fits P n t ty = true →
    DataW.trod enc P w 0 (fun _ => true) true fuel t cs = some x → Light P t x.1 → ∃ v, Holds w ty v cs := by
  induction n with
  | zero => intro t ty fuel cs x hf; simp [Ty.fits] at hf
  | succ n ih =>
    intro t ty fuel cs x hf hx hw
    unfold Ty.fits at hf
    split at hf
    · rename_i k ht
      cases ty <;> simp only [Bool.false_eq_true, beq_iff_eq] at hf
      subst hf
      obtain ⟨m, rfl, _, hm⟩ := DataW.trod_int ht hx
      exact ⟨m, rfl, hm⟩
    · rename_i ht
      cases ty <;> simp only [Bool.false_eq_true] at hf
      obtain ⟨b, rfl, _⟩ := DataW.trod_bool ht hx
      exact ⟨b, rfl⟩
    · rename_i ht
      cases ty <;> simp only [Bool.false_eq_true] at hf
      obtain ⟨s, rfl, rfl, _⟩ := DataW.trod_string ht hx
      refine ⟨s, rfl, ?_⟩
      have := hw s.data.toList.length (by simp [DataW.weights])
      simpa using this
    · rename_i e ht
      cases ty <;> simp only [Bool.false_eq_true, Bool.and_eq_true, beq_iff_eq, decide_eq_true_eq] at hf
      rename_i by' ty'
      obtain ⟨⟨⟨hfe, hce⟩, hbe⟩, hpos⟩ := hf
      rcases open_slice ht hx with ⟨rfl, rfl⟩ | ⟨a, len, cap, m, n', D, Pl, rfl, _, hl, hm, hmm, rfl, hi⟩
      · exact ⟨([] : List ty'.El), none, 0, rfl, Nat.le_refl _, by simp, by simp [maxLen], fun h => absurd h (by simp)⟩
      · simp only [if_true] at hmm
        subst hmm
        have hwm : ∀ d, d ∈ (List.range len).map D ++ (List.range (m - len)).map (fun j => D (len + j)) → Light P e d := by
          intro d hd k hk
          refine hw k ?_
          simp only [DataW.weights, ht, List.mem_cons, List.mem_append]
          refine .inr ?_
          rcases List.mem_append.1 hd with h | h
          · exact .inl (weightsAll_mem h hk)
          · exact .inr (weightsAll_mem h hk)
        have hcap : m * by' ≤ reachBytes := by
          have := hw ((((List.range len).map D).length + ((List.range (m - len)).map (fun j => D (len + j))).length) * P.bytesOf e) (by simp only [DataW.weights, ht]; exact List.mem_cons_self)
          simp only [List.length_map, List.length_range] at this
          rw [hbe, show len + (m - len) = m by omega] at this
          exact this
        have each : ∀ i, i < len → ∃ v : ty'.El, ∃ row : List Value, row.length = ty'.size ∧ (∀ (j : Nat) (u : Value), row[j]? = some u → w.cell? (a.add (i * ty'.size + j)) = some u) ∧ Holds w ty' v row := by
          intro i hil
          obtain ⟨cs', hc, ht'⟩ := hi i (by omega)
          obtain ⟨v, hv⟩ := ih e ty' n' cs' (D i, Pl i) hfe ht' (hwm _ (List.mem_append.2 (.inl (List.mem_map.2 ⟨i, List.mem_range.2 hil, rfl⟩))))
          obtain ⟨_, hcl, hat⟩ := World.cells?_some hc
          rw [hce] at hcl hat
          refine ⟨v, cs', hcl, fun j u hu => ?_, hv⟩
          have hjl : j < cs'.length := (List.getElem?_eq_some_iff.1 hu).1
          have h1 := hat j (by omega)
          rw [← Go.Deep.add_add, h1, hu]
        have ne : ∀ (h0 : 0 < len), Nonempty ty'.El := fun h0 => let ⟨v, _⟩ := each 0 h0; ⟨v⟩
        by_cases h0 : len = 0
        · subst h0
          exact ⟨([] : List ty'.El), some a, m, rfl, by simp, hcap, hm, fun h => absurd h (by simp)⟩
        · obtain ⟨d0⟩ := ne (by omega)
          haveI : Inhabited ty'.El := ⟨d0⟩
          obtain ⟨F, hF⟩ := choose_lt each
          have hspot : a.spot = none ∧ a.block < w.heap.size := by
            obtain ⟨row, hrl, hrc, _⟩ := hF 0 (by omega)
            have h1 : row[0]? = some (row[0]'(by omega)) := List.getElem?_eq_getElem (by omega)
            have h2 := hrc 0 _ h1
            simp only [Nat.zero_mul, Nat.add_zero] at h2
            rw [show a.add 0 = a from rfl] at h2
            refine ⟨?_, World.block_lt_of_cell? w a h2⟩
            unfold World.cell? at h2
            split at h2
            · cases hs : a.spot with
              | none => rfl
              | some _ => rw [hs] at h2; simp at h2
            · cases h2
          refine ⟨((List.range len).map F : List ty'.El), some a, m, by simp, by simpa using hl, hcap, hm, fun _ => ⟨a.block, a.off, ?_, hspot.2, fun i x hx' => ?_⟩⟩
          · rw [← hspot.1]
          · have hil : i < len := by simpa using (List.getElem?_eq_some_iff.1 hx').1
            have hxe : x = F i := by simpa [hil] using hx'.symm
            subst hxe
            obtain ⟨row, hrl, hrc, hrh⟩ := hF i hil
            refine ⟨row, hrl, fun j u hu => ?_, hrh⟩
            have h3 := hrc j u hu
            rw [← h3]
            congr 1
            unfold Addr.add
            split
            · rename_i h4
              rw [h4, ← hspot.1]
              rfl
            · rfl
    · rename_i fs ht
      simp only [Bool.and_eq_true, beq_iff_eq] at hf
      obtain ⟨ys, n', rfl, rfl, hlen, hyl, hg⟩ := DataW.trod_struct ht hx
      have := open_fields (P := P) (w := w) (enc := enc) (n := n) ih n' cs fs.toList 0 ty ys hf.2 (by rw [hlen, hf.1]; omega) (by simpa using hyl)
        (fun i f h => hg i f (by simpa using h)) (fun m hm => hw m (by rw [weights_agg_struct ht]; exact hm))
      simpa using this
    · rename_i m e ht
      simp only [Bool.and_eq_true, beq_iff_eq] at hf
      obtain ⟨ys, n', rfl, rfl, hlen, hyl, hg⟩ := DataW.trod_array ht hx
      have := open_arr (P := P) (w := w) (enc := enc) (n := n) (e := e) (fun ty => ih e ty) n' cs m 0 ty ys hf.2 (by rw [hlen, hf.1]; omega) (by omega)
        (fun i h => hg i (by omega)) (fun d hd k hk => hw k (by rw [weights_agg_array ht]; exact weightsAll_mem hd hk))
      simpa using this
    · simp at hf
end
end Go
