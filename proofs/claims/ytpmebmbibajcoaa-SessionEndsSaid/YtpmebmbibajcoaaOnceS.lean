/- session: a post of those under way comes, in a round of all posts: the invariant, and the walk by contract. -/
import Derived.Test.YtpmebmbibajcoaaOnceD0
import Derived.Test.YtpmebmbibajcoaaOnceR
set_option linter.unusedSimpArgs false
set_option linter.unusedVariables false
namespace Go.Proofs.Ytpmebmbibajcoaa
open Go.RowKit
theorem InvL.ok2 {T : Nat} {next : Int} {d o : Side} {old : List Old} (h : InvL T next d o old) (hT : T ≤ 1000000) (hd : d.c.wait.length ≤ 120) (ho : o.c.wait.length ≤ 120) : Ok2 d.c o.c := by
  have one : ∀ {d o : Side}, InvL T next d o old → d.c.wait.length ≤ 120 → Ok1 d.c o.c := fun h hd =>
    ⟨h.i.d1.m1, h.i.d1.y0, h.i.d2.yo, h.i.d1.f1, by have := h.i.d2.last; omega, hd, h.net.a.met, h.net.a.sound, fun x hx => (posts_good h.i hT x hx).ok⟩
  exact ⟨one h hd, one h.swap ho, h.i.ne⟩
theorem hear_wait {c : Ch} {p : Post} (hk : okPost p = true) : (hear c p).2.2.wait.length ≤ c.wait.length := by
  by_cases h : p.mine < c.yours
  · rw [hear_late hk h]; exact Nat.le_refl _
  · obtain ⟨n, _, h2, _⟩ := (hear_more c p hk (by omega)).n
    rw [h2, List.length_drop]
    have : (ch1 c p).wait.length ≤ c.wait.length := by unfold ch1; split <;> simp
    omega
theorem hearL_wait {ps : List Post} : ∀ {c : Ch}, (∀ x ∈ ps, okPost x = true) → (hearL c ps).wait.length ≤ c.wait.length := by
  induction ps with
  | nil => intro c _; exact Nat.le_refl _
  | cons p r ih =>
    intro c h
    rw [hearL_cons]
    exact Nat.le_trans (ih (fun x hx => h x (List.mem_cons_of_mem _ hx))) (hear_wait (h p List.mem_cons_self))
/-- an end, to which nothing is under way -/
def unway (d : Side) : Side := ⟨d.c, d.said, d.heard, []⟩
theorem unway_idem (d : Side) (h : d.way = []) : unway d = d := by
  cases d
  cases h
  rfl
def HeardO (W : World) (P k Bd Bo T : Nat) (d o : Side) (next : Int) (x : Post) (l : List Asn) (e : Ending) (w' : World) : Prop :=
  e = .returned (.bool true) ∧ ∃ d' old', InvL (T + 1) next d' o old' ∧ d'.way = d.way ∧ d'.c = (hear d.c x).2.2 ∧ Own W w' (pairB P k Bd Bo (unway d') o next old' :: l)
theorem heard_0 {W wx : World} {P Bd Bo T : Nat} {d o : Side} {next : Int} {old : List Old} {l : List Asn} (O : Own W wx (pairB P 0 Bd Bo (unway d) o next old :: l)) (hI : InvL T next d o old) (hT : T ≤ 50000) (x : Post) (hx : x ∈ d.way) :
    Calls Try.prog 36 #[chV P, .int .i64 0, x.v] wx (HeardO W P 0 Bd Bo T d o next x l) := by
  have hg := hI.i.d2.way x hx
  have hb := hI.bounds
  by_cases hle : d.c.yours ≤ x.mine
  · have hC := hI.comes x hg (hI.net.a.way x hx) hle
    refine (comes_0B O x hg.ok hle hb.d1 hb.d2 hb.d3 ⟨by have := hb.d4; simp only [unway]; omega, by have := hb.d5; simp only [unway]; omega, by simp [unway], by have := hb.d7; omega, by have := hb.d8; omega⟩ (fun e he => by have := hC.sz e he; omega) hC.i.d2.pre).mono ?_
    rintro e w' ⟨rfl, O'⟩
    exact ⟨rfl, _, _, hC, rfl, rfl, O'⟩
  · refine (comes_old0B O x hg.ok (by show x.mine < d.c.yours; omega) hb.d1 hb.d2 hb.d3).mono ?_
    rintro e w' ⟨rfl, O'⟩
    exact ⟨rfl, d, old, hI.mono (Nat.le_succ _), rfl, (hear_late hg.ok (by omega)).symm, O'⟩
theorem heard_1 {W wx : World} {P Bd Bo T : Nat} {d o : Side} {next : Int} {old : List Old} {l : List Asn} (O : Own W wx (pairB P 1 Bd Bo (unway d) o next old :: l)) (hI : InvL T next d o old) (hT : T ≤ 50000) (x : Post) (hx : x ∈ d.way) :
    Calls Try.prog 36 #[chV P, .int .i64 1, x.v] wx (HeardO W P 1 Bd Bo T d o next x l) := by
  have hg := hI.i.d2.way x hx
  have hb := hI.bounds
  by_cases hle : d.c.yours ≤ x.mine
  · have hC := hI.comes x hg (hI.net.a.way x hx) hle
    refine (comes_1B O x hg.ok hle hb.d1 hb.d2 hb.d3 ⟨by have := hb.d4; simp only [unway]; omega, by have := hb.d5; simp only [unway]; omega, by simp [unway], by have := hb.d7; omega, by have := hb.d8; omega⟩ (fun e he => by have := hC.sz e he; omega) hC.i.d2.pre).mono ?_
    rintro e w' ⟨rfl, O'⟩
    exact ⟨rfl, _, _, hC, rfl, rfl, O'⟩
  · refine (comes_old1B O x hg.ok (by show x.mine < d.c.yours; omega) hb.d1 hb.d2 hb.d3).mono ?_
    rintro e w' ⟨rfl, O'⟩
    exact ⟨rfl, d, old, hI.mono (Nat.le_succ _), rfl, (hear_late hg.ok (by omega)).symm, O'⟩
end Go.Proofs.Ytpmebmbibajcoaa
