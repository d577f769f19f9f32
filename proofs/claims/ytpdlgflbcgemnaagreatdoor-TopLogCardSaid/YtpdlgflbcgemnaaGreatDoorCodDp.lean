/- codec: Decode's ending: plain laws. -/
import Derived.Test.YtpdlgflbcgemnaaGreatDoorCodMc
import Derived.Test.YtpdlgflbcgemnaaGreatDoorGB
set_option linter.unusedSimpArgs false
set_option linter.unusedVariables false
set_option maxRecDepth 100000
namespace Go.Proofs.YtpdlgflbcgemnaaGreatDoor
open Go.RowKit Octs
def msgA (m : MsgR) (a : MAt) : List Asn := [slA 16 (.slice a.Ac m.cs.length a.cc) m.cs.length (m.cs.flatMap CmdR.cs), slA 11 (.slice a.Ab m.bs.length a.cb) m.bs.length (m.bs.flatMap BdR.cs), slA 3 (.slice a.Ai m.is.length a.ci) m.is.length (m.is.flatMap IdR.cs)]
theorem msgA_rows {W w : World} {m : MsgR} {a : MAt} {l : List Asn} (O : Own W w (msgA m a ++ l)) : MRows w m a :=
  ⟨slRowsC rfl (Own.sl 0 O rfl), slRowsB rfl (Own.sl 1 O rfl), slRowsI rfl (Own.sl 2 O rfl)⟩
abbrev a0 : MAt := ⟨none, none, none, 0, 0, 0⟩
theorem msgA_none {W w : World} {l : List Asn} (O : Own W w l) : Own W w (msgA msZ a0 ++ l) := Own.nilSl (Own.nilSl (Own.nilSl O 3) 11) 16
theorem results_O2 {P : Program} {W w : World} {l : List Asn} {n : Nat} {cs : List Value} {fn : Func} {p q : Tmp} {ty : TypeId} (h : fn.results = #[.cell p ty, .tmp q]) (tmps : Array Value) (i : Nat) (O : Own W w l) (hi : l[i]? = some (cellsA n cs)) (hp : tmps.getD p undef = .pointer (some ⟨n, 0, none⟩)) {d : TypeDesc} (hu : P.underlying ty = some d) (hd : rowD d = true) (hz : (P.info? ty).map (·.size) = some cs.length) :
    (results fn tmps).run P w = .ok (.tuple #[.agg cs.toArray, tmps.getD q undef]) w := by
  have hp' : tmps[p]?.getD undef = .pointer (some ⟨n, 0, none⟩) := by simpa using hp
  have hl := run_loadVar_O (P := P) i 0 cs O hi (by omega) (by simp) hu hd hz
  simp [results, h, hp', asAddr, hl]
/-- what Decode leaves -/
def DecPost (W : World) (l : List Asn) (D : MsgR × Int) (e : Ending) (w' : World) : Prop := ∃ a, e = .returned (.tuple #[mV D.1 a, nI D.2]) ∧ Own W w' (msgA D.1 a ++ l)
def finM (m : MsgR) (s : ByteArray) (b : Bool) : MsgR × Int := if !b && decide (s.size = 0) && okM m then (m, 0) else (msZ, 2)
theorem finM_bad (m : MsgR) (s : ByteArray) (b : Bool) (h : Octs.rDone s b = 2) : finM m s b = (msZ, 2) := by
  unfold finM
  unfold Octs.rDone at h
  split at h
  · rename_i hc
    rcases hc with rfl | hc
    · rfl
    · have : ¬ s.size = 0 := fun e => hc (Octs.empty_of_size e)
      simp [this]
  · cases h
theorem finM_good (m : MsgR) (s : ByteArray) (b : Bool) (h : Octs.rDone s b = 0) : finM m s b = if okM m then (m, 0) else (msZ, 2) := by
  unfold Octs.rDone at h
  split at h
  · cases h
  · rename_i hc
    have hb : b = false := by cases b <;> simp_all
    have hs : s = ⟨#[]⟩ := Decidable.by_contra fun e => hc (.inr e)
    subst hb hs
    unfold finM
    rw [show decide ((⟨#[]⟩ : ByteArray).size = 0) = true from rfl]
    simp
theorem rDone_02 (s : ByteArray) (b : Bool) : Octs.rDone s b = 0 ∨ Octs.rDone s b = 2 := by
  unfold Octs.rDone
  split
  · exact .inr rfl
  · exact .inl rfl
end Go.Proofs.YtpdlgflbcgemnaaGreatDoor
