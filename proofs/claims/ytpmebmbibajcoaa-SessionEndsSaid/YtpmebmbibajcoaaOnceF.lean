/- session: the law's turn of any end, and made: walk. -/
import Derived.Test.YtpmebmbibajcoaaOnceD
import Derived.Test.YtpmebmbibajcoaaOnceE
import Derived.Deep.CutBlock
set_option linter.unusedSimpArgs false
set_option linter.unusedVariables false
namespace Go.Proofs.Ytpmebmbibajcoaa
open Go.RowKit
/-- a turn, as it lies in memory -/
structure TurnR where
  kind : Int
  en : Int
  k : Int
  text : ByteArray
def TurnR.cs (t : TurnR) : List Value := [.int .i64 t.kind, .int .i64 t.en, .int .i64 t.k, .string t.text]
abbrev tu0 : TurnR := ⟨0, 0, 0, ⟨#[]⟩⟩
def turnRow (ts : List TurnR) (i j : Nat) : Value := (ts.getD i tu0).cs.getD j (.bool false)
theorem turn_row {w : World} {A : Option Addr} {n : Nat} {ts : List TurnR} (h : RowsAt w A 4 n (turnRow ts)) (k : Nat) (hk : k < n) : ∃ g o, A = some ⟨g, o, none⟩ ∧ g < w.heap.size ∧
    w.cell? ⟨g, o + k * 4, none⟩ = some (.int .i64 (ts.getD k tu0).kind) ∧ w.cell? ⟨g, o + k * 4 + 1, none⟩ = some (.int .i64 (ts.getD k tu0).en) ∧ w.cell? ⟨g, o + k * 4 + 2, none⟩ = some (.int .i64 (ts.getD k tu0).k) ∧ w.cell? ⟨g, o + k * 4 + 3, none⟩ = some (.string (ts.getD k tu0).text) := by
  obtain ⟨g, o, rfl, hl, hc⟩ := h (by omega)
  exact ⟨g, o, rfl, hl, hc k 0 hk (by omega), hc k 1 hk (by omega), hc k 2 hk (by omega), hc k 3 hk (by omega)⟩
theorem turn_any {W wx : World} {P T : Nat} {d o : Side} {next : Int} {old : List Old} {l : List Asn} (h : Own W wx (pairA P 0 d o next old :: l)) (hI : InvL T next d o old) (hT : T ≤ 500) (kind en K : Int) (t : ByteArray) (hk : 0 ≤ kind ∧ kind ≤ 10)
    (hK : -9223372036854775808 ≤ K ∧ K ≤ 9223372036854775807) :
    Calls Try.prog 35 #[chV P, .agg #[.int .i64 kind, .int .i64 en, .int .i64 K, .string t]] wx (TurnO W P 0 (T + 1) l) := by
  rcases (by omega : en % 2 = 0 ∨ en % 2 = 1) with he | he
  · exact turn_0 h hI hT kind en K t hk he hK
  · refine (turn_1 (pair_swap h) hI.swap hT kind en K t hk he hK).mono ?_
    rintro e w' ⟨rfl, d', o', next', old', hI', O'⟩
    exact ⟨rfl, o', d', next', old', hI'.swap, pair_swap' O'⟩
theorem rem11 (n : Int) : ∃ (t : Int) (m : Nat), n.tmod 11 = t ∧ wrap64 (t + 11) = t + 11 ∧ IntKind.i64.wrap (t + 11) = t + 11 ∧ (t + 11).tmod 11 = (m : Int) ∧ m ≤ 10 := by
  obtain ⟨t, k, h1, h2, h3, h4, h5, _⟩ := remN n 11 (by omega) (by omega)
  exact ⟨t, k, h1, h2, h3, h4, by omega⟩
def MadeO (w : World) (e : Ending) (w' : World) : Prop := ∃ P d o next old, e = .returned (.tuple #[chV P, .bool true]) ∧ InvL 120 next d o old ∧ Own w w' [pairA P 0 d o next old]
set_option maxRecDepth 100000 in
set_option maxHeartbeats 4000000 in
theorem made_any (ts : List TurnR) (A : Option Addr) (cp : Nat) (w : World) (hn : ts.length ≤ 140737488351232) (hr : RowsAt w A 4 ts.length (turnRow ts)) (hb : ∀ t ∈ ts, -9223372036854775808 ≤ t.k ∧ t.k ≤ 9223372036854775807) :
    Calls Try.prog 23 #[.slice A ts.length cp] w (MadeO w) := by
  replace hr := Lib.hid hr
  replace hb := Lib.hid hb
  go_enter Try.func23, Try.ntmps23
  go_upto_region 2 with fail
  have O0 : Own w (w.alloc (.cells #[.pointer none, .pointer none, .int .i64 0, .slice none 0 0] 66)) [cellsA w.heap.size (nilP (.pointer none) (.pointer none) 0)] := Own.newCells (Own.start w) (nilP (.pointer none) (.pointer none) 0) 66
  have k1 := Lib.hid (begin_00 O0)
  go_upto_region 3 with (go_at_call 34; (with_reducible refine k1.out.mono ?_); rintro e w1 ⟨rfl, B, O1⟩)
  have k2 := Lib.hid (begin_01 O1)
  generalize w.heap.size = P at *
  clear O0 k1
  go_upto_region 4 with (go_at_call 34; (with_reducible refine k2.out.mono ?_); rintro e w2 ⟨rfl, O2⟩)
  clear O1 k2
  go_wp2_with fail
  go_loopw [5] (fun i wr => ∃ (k : Nat) (d o : Side) (next : Int) (old : List Old), k ≤ ts.length ∧ k ≤ 120 ∧ i = .int .i64 k ∧ InvL k next d o old ∧ Own w wr [pairA P 0 d o next old]) (fun i _ => 120 - (intOf i).toNat)
  case atStart => exact ⟨0, _, _, _, _, Nat.zero_le _, by omega, rfl, InvL.start, O2⟩
  case round =>
    clear O2
    obtain ⟨k, d, o, next, old, hk, hk2, rfl, hI, OX⟩ := hrel
    have hfin := Lib.hid (hI.mono hk2)
    by_cases hlt : k < ts.length
    · by_cases h120 : k < 120
      · have h120i : (k : Int) < 120 := by omega
        obtain ⟨g, oo, rfl, hg, c0, c1, c2, c3⟩ := turn_row (hr.out.plus OX.p) k hlt
        haveI : InW g wr := ⟨hg⟩
        have hmem : ts.getD k tu0 ∈ ts := by
          rw [List.getD_eq_getElem?_getD, List.getElem?_eq_getElem hlt]
          exact List.getElem_mem _
        have hkb := hb.out _ hmem
        clear hmem
        generalize ts.getD k tu0 = tn at *
        obtain ⟨nk, ne, nK, nt⟩ := tn
        dsimp only at c0 c1 c2 c3 hkb
        obtain ⟨tt, m, hr1, hr2, hr3, hr4, hm⟩ := rem11 nk
        have kT := Lib.hid (fun (t' : ByteArray) => turn_any (OX.newCells [.int .i64 m, .int .i64 ne, .int .i64 nK, .string t'] 90).rot1 hI (by omega) m ne nK t' (by omega) hkb)
        clear hkb
        replace OX := Lib.hid OX
        by_cases h1000 : 1000 < nt.size
        · have h1000i : (1000 : Int) < nt.size := by omega
          have h1000j : (1000 : Int) ≤ nt.size := by omega
          go_wp2_with (go_at_call 35; (with_reducible refine (kT.out _).mono ?_); rintro e w4 ⟨rfl, d', o', next', old', hI', O'⟩)
          go_roundw
          case rel => exact ⟨k + 1, d', o', next', old', hlt, h120, by go_num, hI', O'.rot1.drop⟩
          case measure => simp [intOf]; omega
        · have h1000i : ¬ (1000 : Int) < nt.size := by omega
          go_wp2_with (go_at_call 35; (with_reducible refine (kT.out _).mono ?_); rintro e w4 ⟨rfl, d', o', next', old', hI', O'⟩)
          go_roundw
          case rel => exact ⟨k + 1, d', o', next', old', hlt, h120, by go_num, hI', O'.rot1.drop⟩
          case measure => simp [intOf]; omega
      · have h120i : ¬ (k : Int) < 120 := by omega
        replace OX := Lib.hid OX
        go_wp2_with fail
        go_ret2
        exact ⟨P, d, o, next, old, rfl, hfin.out, OX.out⟩
    · replace OX := Lib.hid OX
      go_wp2_with fail
      go_ret2
      exact ⟨P, d, o, next, old, rfl, hfin.out, OX.out⟩
end Go.Proofs.Ytpmebmbibajcoaa
