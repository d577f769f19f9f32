/- From a walk that returns true, and lays new memory alone, to the row's step: plain theorems over any program. -/
import Derived.Test.YtjfjecjigakdnaaOpen
import Derived.Test.YtjfjecjigakdnaaGrow
set_option linter.unusedSimpArgs false
set_option linter.unusedVariables false
namespace Go
open Go.RowKit Go.ChangeShapes Go.WideShapes Go.Deep

/-- A type without slices. -/
def Ty.flat : Ty → Bool
  | .pair a b => a.flat && b.flat
  | .slice .. => false
  | _ => true
/-- The cells of a value of a type without slices. -/
def Ty.cells : (t : Ty) → t.El → List Value
  | .int k, n => [.int k n]
  | .bool, b => [.bool b]
  | .str, s => [.string s]
  | .unit, _ => []
  | .pair a b, x => a.cells x.1 ++ b.cells x.2
  | .slice _ _, _ => []
/-- Its numbers are within their kinds, its texts within the reach. -/
def Ty.Wf : (t : Ty) → t.El → Prop
  | .int k, n => (Lit.int k n).wf = true
  | .bool, _ => True
  | .str, s => s.size ≤ reachBytes
  | .unit, _ => True
  | .pair a b, x => a.Wf x.1 ∧ b.Wf x.2
  | .slice _ _, _ => True
theorem Holds.flat {w : World} : ∀ {t : Ty} {x : t.El} {cs : List Value}, t.flat = true → Holds w t x cs → cs = t.cells x ∧ t.Wf x
  | .int _, _, _, _, h => h
  | .bool, _, _, _, h => ⟨h, trivial⟩
  | .str, _, _, _, h => h
  | .unit, _, _, _, h => ⟨h, trivial⟩
  | .pair a b, x, cs, hf, h => by
    simp only [Ty.flat, Bool.and_eq_true] at hf
    obtain ⟨c1, c2, rfl, _, h1, h2⟩ := h
    obtain ⟨e1, w1⟩ := h1.flat hf.1
    obtain ⟨e2, w2⟩ := h2.flat hf.2
    exact ⟨by rw [e1, e2]; rfl, w1, w2⟩
  | .slice _ _, _, _, hf, _ => by simp [Ty.flat] at hf
theorem Ty.cells_length : ∀ (t : Ty) (x : t.El), t.flat = true → (t.cells x).length = t.size
  | .int _, _, _ => rfl
  | .bool, _, _ => rfl
  | .str, _, _ => rfl
  | .unit, _, _ => rfl
  | .pair a b, x, hf => by
    simp only [Ty.flat, Bool.and_eq_true] at hf
    simp only [Ty.cells, List.length_append, Ty.size, Ty.cells_length a _ hf.1, Ty.cells_length b _ hf.2]
  | .slice _ _, _, hf => by simp [Ty.flat] at hf
/-- A slice of a type without slices, as the walks take it. -/
theorem Holds.rows {w : World} {by' : Nat} {t : Ty} {xs : List t.El} {cs : List Value} (hf : t.flat = true) (h : Holds w (.slice by' t) xs cs) :
    ∃ (A : Option Addr) (c : Nat), cs = [.slice A xs.length c] ∧ xs.length ≤ c ∧ c * by' ≤ reachBytes ∧ c ≤ maxLen ∧ (∀ x ∈ xs, t.Wf x) ∧
      ∀ g : Nat → Nat → Value, (∀ (i j : Nat) (x : t.El), xs[i]? = some x → j < t.size → (t.cells x)[j]? = some (g i j)) → RowsAt w A t.size xs.length g := by
  obtain ⟨A, c, hcs, h1, h2, h3, h4⟩ := h
  refine ⟨A, c, hcs, h1, h2, h3, fun x hx => ?_, fun g hg hn => ?_⟩
  · obtain ⟨i, hi, rfl⟩ := List.getElem_of_mem hx
    obtain ⟨_, _, _, _, hr⟩ := h4 (by omega)
    obtain ⟨row, _, _, hh⟩ := hr i _ (List.getElem?_eq_getElem hi)
    exact (hh.flat hf).2
  · obtain ⟨b, off, hA, hb, hr⟩ := h4 hn
    refine ⟨b, off, hA, hb, fun i j hi hj => ?_⟩
    obtain ⟨row, _, hc, hh⟩ := hr i _ (List.getElem?_eq_getElem hi)
    refine hc j _ ?_
    rw [(hh.flat hf).1]
    exact hg i j _ (List.getElem?_eq_getElem hi) hj

/-- How a value is made of its cells. -/
def Ty.Is : Ty → Value → List Value → Prop
  | .pair _ _, v, cs | .unit, v, cs => v = .agg cs.toArray
  | _, v, cs => cs = [v]
section
variable {H : Type} {enc : TypeId × Value → H} {P : Program} {w : World}
theorem open_arg {n : Nat} {t : TypeId} {ty : Ty} {v : Value} {d : DataW H} {p : List MemPlace} {r : Reach} {b0 : Nat} (hf : Ty.fits P n t ty = true) (hval : Value.okWide P w r b0 t v)
    (ht : DataW.Trod enc P w 0 (fun _ => true) true t v d p) (hw : Light P t d) : ∃ x cs, Holds w ty x cs ∧ ty.Is v cs := by
  obtain ⟨fuel, hx⟩ := ht
  obtain ⟨x, h⟩ := open_any (P := P) (w := w) n t ty fuel _ _ hf hx hw
  refine ⟨x, _, h, ?_⟩
  cases n with
  | zero => simp [Ty.fits] at hf
  | succ n =>
    unfold Ty.fits at hf
    split at hf
    · rename_i k hk
      cases ty <;> simp only [Bool.false_eq_true] at hf
      obtain ⟨m, rfl⟩ := okWide_int hk hval
      rfl
    · rename_i hk
      cases ty <;> simp only [Bool.false_eq_true] at hf
      obtain ⟨m, rfl⟩ := okWide_bool hk hval
      rfl
    · rename_i hk
      cases ty <;> simp only [Bool.false_eq_true] at hf
      obtain ⟨m, rfl⟩ := okWide_string hk hval
      rfl
    · rename_i e hk
      cases ty <;> simp only [Bool.false_eq_true] at hf
      obtain ⟨_, _, _, rfl⟩ := okWide_slice hk hval
      rfl
    · rename_i fs hk
      obtain ⟨cs, rfl, _⟩ := okWide_struct hk hval
      obtain ⟨l⟩ := cs
      simp only [Bool.and_eq_true] at hf
      cases ty with
      | pair a b => rfl
      | unit => rfl
      | _ => cases hfs : fs.toList <;> rw [hfs] at hf <;> simp [fitsFields] at hf
    · rename_i m e hk
      obtain ⟨cs, rfl, _⟩ : ∃ cs, v = .agg cs ∧ cs.size = P.cellsOf t := by
        simp only [Value.okWide, hk] at hval
        obtain ⟨cs, h1, h2, _⟩ := hval
        exact ⟨cs, h1, h2⟩
      obtain ⟨l⟩ := cs
      simp only [Bool.and_eq_true] at hf
      cases ty with
      | pair a b => rfl
      | unit => rfl
      | _ => cases m <;> simp [fitsArr] at hf
    · simp at hf

theorem trodAll_stays {W W' : World} (hl : laidOutB P = true) (hb : Below W.heap.size W W') : ∀ {ts : List TypeId} {vs : List Value} {ds : List (DataW H)} {p : List MemPlace},
    (ts.all fun t => P.readableRec t && decide (t < P.types.size)) = true → (∀ x ∈ p, x.block < W.heap.size) →
    DataW.TrodAll enc P W 0 (fun _ => true) true ts vs ds p → DataW.TrodAll enc P W' 0 (fun b => decide (b < W.heap.size)) true ts vs ds p
  | [], [], [], _, _, _, h => h
  | t :: ts, v :: vs, d :: ds, p, hr, hlt, h => by
    obtain ⟨p1, q, h1, h2, rfl⟩ := h
    simp only [List.all_cons, Bool.and_eq_true, decide_eq_true_eq] at hr
    exact ⟨p1, q, Below.trod hl hr.1.1 hr.1.2 h1 hb (fun x hx => hlt x (List.mem_append_left _ hx)), trodAll_stays hl hb hr.2 (fun x hx => hlt x (List.mem_append_right _ hx)) h2, rfl⟩
  | [], _ :: _, _, _, _, _, h => h.elim
  | [], [], _ :: _, _, _, _, h => h.elim
  | _ :: _, [], _, _, _, _, h => h.elim
  | _ :: _, _ :: _, [], _, _, _, h => h.elim

/-- The row's step: the call returned true, and below the old heap's end nothing has turned. -/
theorem post_true {f : Func} {s : ChangeSpec} {W W' : World} {args : Array Value} {ds gs : List (DataW H)} {before : List MemPlace} {tb : TypeId}
    (hW : DataW.Whole enc P f.params.toList s.vars false W args.toList ds gs before) (hsv : s.vars = [])
    (hres : (s.fn H (ds ++ gs)).results = [.lit (.bool true)]) (hargs : (s.fn H (ds ++ gs)).args = ds) (hvars : (s.fn H (ds ++ gs)).vars = [])
    (hl : laidOutB P = true) (hr : (f.params.toList.all fun t => P.readableRec t && decide (t < P.types.size)) = true)
    (ht : f.resultTypes = #[tb]) (hb : P.underlying tb = some .bool) (hbel : Below W.heap.size W W') :
    s.post enc P f false true false false W args (.bool true) W' := by
  have hW' := hW
  obtain ⟨p, q, hA, hV, rfl, _, _⟩ := hW
  rw [hsv] at hV
  match gs, q, hV with
  | [], [], _ =>
    refine ⟨ds, [], _, [], p, [], hW', ?_, ?_, ?_, hbel.frame _, fun h => by cases h⟩
    · rw [hres, ht]
      exact trodAll_cons_mk (shut_bool hb true) trodAll_mk0
    · rw [hargs]
      exact trodAll_stays hl hbel hr (fun x hx => hW'.lt x (by simpa using hx)) hA
    · rw [hvars, hsv]
      exact rfl
  | [], _ :: _, h => simp [DataW.TrodVars] at h
  | _ :: _, _, h => simp [DataW.TrodVars] at h
end
end Go
