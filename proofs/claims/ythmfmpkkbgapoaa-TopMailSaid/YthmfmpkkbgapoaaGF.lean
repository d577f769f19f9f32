/- Plain laws and walks: MailD, MailE, MailF. -/
import Derived.Test.YthmfmpkkbgapoaaMailB
import Derived.Test.YthmfmpkkbgapoaaMailC
import Derived.Deep.CutBlock
import Derived.Test.YthmfmpkkbgapoaaGo
-- MailD
/- top: mod, rest, met: walks. -/
set_option linter.unusedSimpArgs false
set_option linter.unusedVariables false
namespace Go.Proofs.Ythmfmpkkbgapoaa
open Go.RowKit Octs
theorem map_erase {α β : Type} (f : α → β) : ∀ (l : List α) (k : Nat), (l.map f).eraseIdx k = (l.eraseIdx k).map f
  | [], _ => rfl
  | _ :: _, 0 => rfl
  | a :: l, k + 1 => by
    show f a :: (l.map f).eraseIdx k = _
    rw [map_erase f l k]
    rfl
/-- how many packets are under way, read in the world -/
def netLen (P : Nat) (w : World) : Nat :=
  match w.cell? ⟨P, 2, none⟩ with
  | some (.pointer (some a)) => match w.cell? ⟨a.block, 1, none⟩ with
    | some (.slice _ n _) => n
    | _ => 0
  | _ => 0
section
variable {W wx : World} {l : List Asn} {P N0 N1 : Nat} {S : Bool → List MsgR} {g : St}
theorem St.pr_post0 (g : St) : (g.post false).pr = { g.pr with c0 := { g.pr.c0 with owes := false }, net := g.pr.net ++ (Ses.postsL g.pr.c0).map fun q => pkOf (true, q) } := by
  simp [St.pr, St.post, upd, Ses.pst]
theorem St.pr_post1 (g : St) : (g.post true).pr = { g.pr with c1 := { g.pr.c1 with owes := false }, net := g.pr.net ++ (Ses.postsL g.pr.c1).map fun q => pkOf (false, q) } := by
  simp [St.pr, St.post, upd, Ses.pst]
theorem postB (h : Own W wx (pairA P N0 N1 g.pr :: l)) (hI : GI S g) (k : Bool) (hn : g.gn.length ≤ 4000) : Calls Try.prog 9 #[ptV P, .int .i64 (if k then 1 else 0)] wx (OwnTo W (.tuple #[]) (pairA P N0 N1 (g.post k).pr :: l)) := by
  have hb := hI.bnd k
  have hp := hI.posts k
  have hl : g.pr.net.length = g.gn.length := by simp [St.pr]
  cases k with
  | false =>
    rw [St.pr_post0]
    exact post_0 h rfl ⟨by have := hb.f; simp only [St.pr]; omega, by have := hb.f; simp only [St.pr]; omega⟩ (by have := hb.w; simp only [St.pr]; omega) hp (by omega)
  | true =>
    rw [St.pr_post1]
    exact post_1 h rfl ⟨by have := hb.f; simp only [St.pr]; omega, by have := hb.f; simp only [St.pr]; omega⟩ (by have := hb.w; simp only [St.pr]; omega) hp (by omega)
theorem comesB (h : Own W wx (pairA P N0 N1 g.pr :: l)) (hI : GI S g) (k : Nat) (x : Bool × Ses.Post) (hx : g.gn[k]? = some x) (hn : g.gn.length ≤ 4000) : Calls Try.prog 10 #[ptV P, .int .i64 (k : Int)] wx (OwnTo W (.tuple #[]) (pairA P N0 N1 ((g.come x).net (g.gn.eraseIdx k)).pr :: l)) := by
  have hm := List.mem_of_getElem? hx
  have hc := hI.cm hm
  have hh := hI.hfew x.1
  have hl : g.pr.net.length = g.gn.length := by simp [St.pr]
  have he : g.pr.net.eraseIdx k = (g.gn.eraseIdx k).map pkOf := by simp only [St.pr]; exact map_erase pkOf g.gn k
  have hxn : g.pr.net[k]? = some (pkOf x) := by simp only [St.pr, List.getElem?_map, hx]; rfl
  obtain ⟨b, q⟩ := x
  cases b with
  | false =>
    have k0 := comes_0 h rfl k q hxn (by omega) hc (by simp only [St.pr]; simp only at hh; omega)
    rw [he] at k0
    exact k0
  | true =>
    have k0 := comes_1 h rfl k q hxn (by omega) hc (by simp only [St.pr]; simp only at hh; omega)
    rw [he] at k0
    exact k0
/-- the net's length, told -/
theorem lenB (h : Own W wx (pairA P N0 N1 g.pr :: l)) : ∃ X : Nat, P < wx.heap.size ∧ wx.cell? ⟨P, 2, none⟩ = some (ptV X) ∧ Calls Try.prog 7 #[ptV X] wx fun e w' => e = .returned (.int .i64 (g.gn.length : Int)) ∧ wx.Plus w' := by
  obtain ⟨⟨X, v0, v1⟩, O⟩ := h.ex
  simp only [pairL, List.cons_append, List.nil_append] at O
  obtain ⟨lP, qP, fP⟩ := O.cells 0 rfl
  have k0 := netLen_O (O.pull 3 rfl)
  have hl : g.pr.net.length = g.gn.length := by simp [St.pr]
  rw [hl] at k0
  exact ⟨X, lP, qP 2 (by simp), k0⟩
theorem netCount_O (h : Own W wx (pairA P N0 N1 g.pr :: l)) : netLen P wx = g.gn.length := by
  obtain ⟨⟨X, v0, v1⟩, O⟩ := h.ex
  simp only [pairL, List.cons_append, List.nil_append] at O
  obtain ⟨lP, qP, fP⟩ := O.cells 0 rfl
  obtain ⟨v, O2⟩ := (O.pull 3 rfl).ex
  obtain ⟨A, c, hv⟩ := (O2.sl 1 rfl).shape
  obtain ⟨lX, qX, fX⟩ := O2.cells 0 rfl
  have e1 : wx.cell? ⟨P, 2, none⟩ = some (ptV X) := qP 2 (by simp)
  have e2 : wx.cell? ⟨X, 1, none⟩ = some v := qX 1 (by simp)
  subst hv
  unfold netLen
  simp only [e1, e2]
  simp [St.pr]
def RestO (W : World) (P N0 N1 : Nat) (S : Bool → List MsgR) (l : List Asn) (e : Ending) (w' : World) : Prop := e = .returned (.tuple #[]) ∧ ∃ g, Done S g ∧ Own W w' (pairA P N0 N1 g.pr :: l)
set_option maxRecDepth 100000 in
set_option maxHeartbeats 2000000 in
theorem rest_O (h : Own W wx (pairA P N0 N1 g.pr :: l)) (hJ : JR S 0 g) : Calls Try.prog 13 #[ptV P] wx (RestO W P N0 N1 S l) := by
  replace hJ := Lib.hid hJ
  replace h := Lib.hid h
  go_enter Try.func13, Try.ntmps13
  go_wp2_with fail
  go_loopw [2] (fun i wr => ∃ (r : Nat) (g : St), r ≤ 36 ∧ i = .int .i64 (r : Int) ∧ JR S r g ∧ Own W wr (pairA P N0 N1 g.pr :: l)) (fun i _ => 200 - (intOf i).toNat)
  case atStart => exact ⟨0, g, by omega, rfl, hJ.out, h.out⟩
  case round =>
    clear h hJ
    obtain ⟨r, g, hr, rfl, hJ, O⟩ := hrel
    have hri : (r : Int) < 200 := by omega
    have k0 := postB O hJ.gi false (by have := hJ.len; omega)
    simp only [Bool.false_eq_true, if_false] at k0
    replace k0 := Lib.hid k0
    replace O := Lib.hid O
    go_upto_region 4 with (go_at_call 9; (with_reducible refine k0.out.mono ?_); rintro e w1 ⟨rfl, O1⟩)
    clear k0 O
    have hl1 : (g.post false).gn.length ≤ 4000 := by
      have := hJ.len
      have := postsL_le (g.c false)
      simp only [St.post, List.length_append, List.length_map]; omega
    have k1 := postB O1 (hJ.gi.post false) true hl1
    simp only [if_true] at k1
    replace k1 := Lib.hid k1
    replace O1 := Lib.hid O1
    go_upto_region 5 with (go_at_call 9; (with_reducible refine k1.out.mono ?_); rintro e w2 ⟨rfl, O2⟩)
    clear k1 O1
    rw [show (g.post false).post true = g.both from rfl] at O2
    have hnil := hJ.nil
    have hmore := hJ.more
    generalize g.both = g2 at *
    obtain ⟨X, lP, p2, kL⟩ := lenB O2
    haveI : InW P w2 := ⟨lP⟩
    replace kL := Lib.hid kL
    replace O2 := Lib.hid O2
    by_cases hg : g2.gn = []
    · have hD := Lib.hid (hnil hg)
      have hz : (g2.gn.length : Int) = 0 := by rw [hg]; rfl
      rw [hz] at kL
      replace hz := Lib.hid hz
      clear hnil hmore hJ
      replace hg := Lib.hid hg
      go_wp2_with (go_at_call 7; (with_reducible refine kL.out.mono ?_); rintro e w' ⟨rfl, e0, rfl⟩)
      go_end0
      exact ⟨rfl, g2, hD.out, O2.out.plus e0⟩
    · have hL := Lib.hid (hmore hg)
      have hz : ¬ (g2.gn.length : Int) = 0 := by
        intro hz
        exact hg (List.eq_nil_of_length_eq_zero (by omega))
      have hzb : ((g2.gn.length : Int) == 0) = false := by simpa using hz
      obtain ⟨n2, hn2⟩ : ∃ n2 : Int, n2 = (g2.gn.length : Int) := ⟨_, rfl⟩
      rw [← hn2] at hz hzb kL
      replace hn2 := Lib.hid hn2
      clear hnil hmore hJ
      replace hg := Lib.hid hg
      go_wp2_with (go_at_call 7; (with_reducible refine kL.out.mono ?_); rintro e w' ⟨rfl, e0, rfl⟩)
      go_loopw [22] (fun _ wz => ∃ g : St, LR S r g ∧ Own W wz (pairA P N0 N1 g.pr :: l)) (fun _ wz => netLen P wz)
      case atStart => exact ⟨g2, hL.out, O2.out.plus e0⟩
      case round =>
        clear O2 hL lP p2 kL hg
        obtain ⟨g3, hL, O⟩ := hrel
        rename World => wz
        obtain ⟨X3, lP, p2, kL⟩ := lenB O
        haveI : InW P wz := ⟨lP⟩
        have hm := Lib.hid (netCount_O O)
        replace kL := Lib.hid kL
        by_cases hg : g3.gn = []
        · have hD := Lib.hid (hL.fin hg)
          have hr2 := hD.out.le
          have hz : (g3.gn.length : Int) = 0 := by rw [hg]; rfl
          rw [hz] at kL
          replace hz := Lib.hid hz
          replace hg := Lib.hid hg
          replace O := Lib.hid O
          clear hL hm
          go_wp2_with (go_at_call 7; (with_reducible refine kL.out.mono ?_); rintro e w' ⟨rfl, e1, rfl⟩)
          go_roundw
          case rel => exact ⟨r + 1, g3, hr2, by go_num, hD.out, O.out.plus e1⟩
          case measure => simp [intOf]; omega
        · obtain ⟨x, rest, hx⟩ : ∃ x rest, g3.gn = x :: rest := by
            cases h : g3.gn with
            | nil => exact absurd h hg
            | cons x rest => exact ⟨x, rest, rfl⟩
          have hn : g3.gn.length = rest.length + 1 := by rw [hx]; rfl
          have hz : ¬ (g3.gn.length : Int) ≤ 0 := by omega
          have hz2 : (0 : Int) < (g3.gn.length : Int) := by omega
          have hL2 := Lib.hid (hL.come hx)
          have hll := hL.len
          have kC : ∀ e : Ext, Calls Try.prog 10 #[ptV P, .int .i64 0] (wz.plus e) (OwnTo W (.tuple #[]) (pairA P N0 N1 ((g3.come x).net rest).pr :: l)) := fun e => by
            have k0 := comesB (O.plus e) hL.gi 0 x (by rw [hx]; rfl) (by omega)
            rw [hx] at k0
            exact k0
          replace kC := Lib.hid kC
          have hz3 : decide (0 < g3.gn.length) = true := decide_eq_true (by omega)
          replace hn := Lib.hid hn
          replace hx := Lib.hid hx
          replace hg := Lib.hid hg
          replace O := Lib.hid O
          clear hL hll
          go_wp2_with (first | (go_at_call 7; (with_reducible refine kL.out.mono ?_); rintro e w' ⟨rfl, e1, rfl⟩) | (go_at_call 10; (with_reducible refine (kC.out _).mono ?_); rintro e w4 ⟨rfl, O4⟩))
          go_roundw
          case rel => exact ⟨_, hL2.out, O4⟩
          case measure =>
            rw [netCount_O O4, hm.out, hn.out]
            exact Nat.lt_succ_self _
end
end Go.Proofs.Ythmfmpkkbgapoaa
-- MailE
/- top: mod, met: walks. -/
set_option linter.unusedSimpArgs false
set_option linter.unusedVariables false
namespace Go.Proofs.Ythmfmpkkbgapoaa
open Go.RowKit Octs
theorem remM (n : Int) (m : Nat) (hm : 0 < m) (hm2 : m ≤ 1000000) : ∃ (t : Int) (k : Nat), n.tmod m = t ∧ wrap64 (t + m) = t + m ∧ (t + m).tmod m = (k : Int) ∧ k < m := by
  have h1 := Int.emod_nonneg n (show (m : Int) ≠ 0 by omega)
  have h2 := Int.tmod_lt_of_pos n (show (0 : Int) < m by omega)
  have h3 := Int.lt_tmod_of_pos n (show (0 : Int) < m by omega)
  have h4 : 0 ≤ (n.tmod m + m) % m := Int.emod_nonneg _ (by omega)
  have h5 : (n.tmod m + m) % m < m := Int.emod_lt_of_pos _ (by omega)
  refine ⟨n.tmod m, ((n.tmod m + m) % m).toNat, rfl, by unfold wrap64; omega, ?_, by omega⟩
  rw [Int.tmod_eq_emod_of_nonneg (by omega)]
  omega
def modV (k : Int) (n : Nat) : Nat := ((k.tmod n + n).tmod n).toNat
theorem modV_lt (k : Int) (n : Nat) (hn : 0 < n ∧ n ≤ 100000) : modV k n < n := by
  obtain ⟨t, m, h1, h2, h3, h4⟩ := remM k n hn.1 (by omega)
  unfold modV
  rw [h1, h3]
  exact h4
theorem mod_any (w : World) (k : Int) (n : Nat) (hn : 0 < n ∧ n ≤ 100000) : Calls Try.prog 8 #[.int .i64 k, .int .i64 (n : Int)] w fun e w' => e = .returned (.int .i64 (modV k n : Int)) ∧ w.Plus w' := by
  obtain ⟨t, m, h1, h2, h3, h4⟩ := remM k n hn.1 (by omega)
  have hm : modV k n = m := by unfold modV; rw [h1, h3]; rfl
  rw [hm]
  have hz : ¬ (n : Int) = 0 := by omega
  have hz2 : ((n : Int) == 0) = false := by simpa using hz
  clear hm
  obtain ⟨N, hN⟩ : ∃ N : Int, N = (n : Int) := ⟨_, rfl⟩
  rw [← hN] at h1 h2 h3 hz hz2 ⊢
  replace hN := Lib.hid hN
  replace hn := Lib.hid hn
  go_enter Try.func8, Try.ntmps8
  go_wp2_with fail
  go_ret
  exact ⟨rfl, by (repeat (first | exact Plus.refl _ | apply Plus.plus | apply Plus.alloc | apply Plus.drew))⟩
section
variable {W wx : World} {l : List Asn}
theorem heard_nil (h : Own W wx l) : Own W wx (heardA (.slice none 0 0) [] :: l) := by
  have h1 : Own W wx (bothA [] :: l) := Own.join (l' := []) h
  have h2 := Own.nilSl h1 6
  have h3 := Own.add h2 (Chg.refl _ _) (Q := factA (([] : List MAt).length = ([] : List MsgR).length)) (A := fun _ => False) ⟨fun k h => h, rfl⟩ (fun k h => h.elim)
  exact Own.mk (fun ys : List MAt => [factA (ys.length = ([] : List MsgR).length), slA 6 (.slice none 0 0) ([] : List MsgR).length (hrC (([] : List MsgR).zip ys)), bothA (hrL (([] : List MsgR).zip ys))]) [] h3
/-- the pair's own ends, for those that hold their pointers -/
theorem epochsB {P N0 N1 : Nat} {g : St} (h : Own W wx (pairA P N0 N1 g.pr :: l)) : P < wx.heap.size ∧ wx.cell? ⟨P, 5, none⟩ = some (.bool false) ∧ Calls Try.prog 17 #[Ses.chV N0] wx (fun e w' => e = .returned (.tuple #[.int .i64 (g.c false).mine, .int .i64 (g.c false).yours]) ∧ wx.Plus w') := by
  obtain ⟨⟨X, v0, v1⟩, O⟩ := h.ex
  simp only [pairL, List.cons_append, List.nil_append] at O
  obtain ⟨lP, qP, fP⟩ := O.cells 0 rfl
  exact ⟨lP, qP 5 (by simp), Ses.epochs_O (O.pull 1 rfl)⟩
def MetO (W : World) (e : Ending) (w' : World) : Prop := ∃ P N0 N1 g, e = .returned (.tuple #[ptV P, .bool true]) ∧ Done (fun _ => []) g ∧ Own W w' [pairA P N0 N1 g.pr]
set_option maxRecDepth 100000 in
set_option maxHeartbeats 2000000 in
theorem met_O (W : World) : Calls Try.prog 4 #[] W (MetO W) := by
  have k1 := Lib.hid (Ses.new_O (Own.start W) 3 (by omega))
  go_enter Try.func4, Try.ntmps4
  go_upto_region 2 with (go_at_call 15; (with_reducible refine k1.out.mono ?_); rintro e w1 ⟨N0, rfl, O1⟩)
  clear k1
  have k2 := Lib.hid (Ses.new_O O1 8 (by omega))
  clear O1
  go_upto_region 3 with (go_at_call 15; (with_reducible refine k2.out.mono ?_); rintro e w2 ⟨N1, rfl, O2⟩)
  clear k2
  have k3 := Lib.hid (netNew_O O2)
  clear O2
  go_upto_region 4 with (go_at_call 16; (with_reducible refine k3.out.mono ?_); rintro e w3 ⟨X, rfl, O3⟩)
  clear k3
  have O4 := O3.newCells [Ses.chV N0, Ses.chV N1, ptV X, .slice none 0 0, .slice none 0 0, .bool false] 40
  clear O3
  go_upto_region 5 with fail
  generalize w3.heap.size = P at *
  generalize hw4 : w3.alloc _ = w4 at *
  clear hw4
  have O5 : Own W w4 [pairA P N0 N1 st0.pr] := by
    have h1 := ((((heard_nil (heard_nil O4)).pull 3 rfl).pull 4 rfl).pull 5 rfl).pull 5 rfl
    exact Own.mk (fun x => pairL P N0 N1 _ x) ⟨X, .slice none 0 0, .slice none 0 0⟩ h1
  have kR := Lib.hid (rest_O O5 st0_jr)
  clear O4 O5
  go_upto_region 8 with (go_at_call 13; (with_reducible refine kR.out.mono ?_); rintro e w5 ⟨rfl, g, hD, O6⟩)
  clear kR
  obtain ⟨lP, p5, kE⟩ := epochsB O6
  have e1 := hD.gi.mine false
  have e2 := hD.yours false
  have e3 := hD.gi.mine true
  simp only [Bool.not_false] at e2
  rw [e2, e1, e3] at kE
  simp only [Bool.false_eq_true, if_false, if_true] at kE
  clear e1 e2 e3
  haveI : InW P w5 := ⟨lP⟩
  replace kE := Lib.hid kE
  replace hD := Lib.hid hD
  replace O6 := Lib.hid O6
  go_upto_region 9 with (go_at_call 17; (with_reducible refine kE.out.mono ?_); rintro e w6 ⟨rfl, e0, rfl⟩)
  clear kE
  refine wp_region_grow (by kernel_rfl) (by kernel_rfl) ?_
  repeat (go_big_quiet_step (fail))
  refine wpQuiet_nil ?_
  intro ex
  go_wp2_with fail
  go_ret2
  exact ⟨P, N0, N1, g, rfl, hD.out, (O6.out.plus e0).plus ex⟩
end
end Go.Proofs.Ythmfmpkkbgapoaa
-- MailF
/- top: what the law's loops want of the pair: contracts. -/
set_option linter.unusedSimpArgs false
set_option linter.unusedVariables false
namespace Go.Proofs.Ythmfmpkkbgapoaa
open Go.RowKit Octs
abbrev ms0 : MsgR × MAt := (msZ, a0)
def msRow (xs : List (MsgR × MAt)) (i j : Nat) : Value := (msC (xs.getD i ms0).1 (xs.getD i ms0).2).getD j (.bool false)
theorem ms_row {w : World} {A : Option Addr} {n : Nat} {xs : List (MsgR × MAt)} (h : RowsAt w A 6 n (msRow xs)) (k : Nat) (hk : k < n) (x : MsgR × MAt) (hx : xs[k]? = some x) : ∃ g o, A = some ⟨g, o, none⟩ ∧ g < w.heap.size ∧
    w.cell? ⟨g, o + k * 6, none⟩ = some (.int .i64 x.1.kind) ∧ w.cell? ⟨g, o + k * 6 + 1, none⟩ = some (.int .i64 x.1.t) ∧ w.cell? ⟨g, o + k * 6 + 2, none⟩ = some (.int .i64 x.1.n) ∧
    w.cell? ⟨g, o + k * 6 + 3, none⟩ = some (.slice x.2.Ac x.1.cs.length x.2.cc) ∧ w.cell? ⟨g, o + k * 6 + 4, none⟩ = some (.slice x.2.Ab x.1.bs.length x.2.cb) ∧ w.cell? ⟨g, o + k * 6 + 5, none⟩ = some (.slice x.2.Ai x.1.is.length x.2.ci) := by
  obtain ⟨g, o, rfl, hl, hc⟩ := h (by omega)
  have e : xs.getD k ms0 = x := by rw [List.getD_eq_getElem?_getD, hx]; rfl
  have c0 := hc k 0 hk (by omega)
  have c1 := hc k 1 hk (by omega)
  have c2 := hc k 2 hk (by omega)
  have c3 := hc k 3 hk (by omega)
  have c4 := hc k 4 hk (by omega)
  have c5 := hc k 5 hk (by omega)
  unfold msRow at c0 c1 c2 c3 c4 c5
  rw [e] at c0 c1 c2 c3 c4 c5
  exact ⟨g, o, rfl, hl, c0, c1, c2, c3, c4, c5⟩
section
variable {W wx : World} {l : List Asn} {P N0 N1 : Nat} {g : St}
theorem pairB (h : Own W wx (pairA P N0 N1 g.pr :: l)) : P < wx.heap.size ∧ wx.cell? ⟨P, 0, none⟩ = some (Ses.chV N0) ∧ wx.cell? ⟨P, 1, none⟩ = some (Ses.chV N1) ∧ wx.cell? ⟨P, 5, none⟩ = some (.bool false) := by
  obtain ⟨⟨X, v0, v1⟩, O⟩ := h.ex
  simp only [pairL, List.cons_append, List.nil_append] at O
  obtain ⟨lP, qP, fP⟩ := O.cells 0 rfl
  exact ⟨lP, qP 0 (by simp), qP 1 (by simp), qP 5 (by simp)⟩
theorem say0 (h : Own W wx (pairA P N0 N1 g.pr :: l)) (t : ByteArray) (hw : (g.c false).wait.length ≤ 1024) :
    Calls Try.prog 6 #[Ses.chV N0, .slice (some ⟨wx.heap.size, 0, none⟩) 1 1] (wx.alloc (.cells #[.string t] 9)) (OwnTo W (.int .i64 (Ses.sayE (g.c false) [t])) (pairA P N0 N1 (g.say false t).pr :: l)) := by
  obtain ⟨⟨X, v0, v1⟩, O⟩ := h.ex
  simp only [pairL, List.cons_append, List.nil_append] at O
  refine (Ses.say_O ((O.alloc (.cells #[.string t] 9)).pull 1 rfl) (some ⟨wx.heap.size, 0, none⟩) 1 [t] (by simp) hw (Ses.one_row wx t)).mono ?_
  rintro e w' ⟨rfl, O'⟩
  dsimp only [List.eraseIdx] at O'
  exact ⟨rfl, Own.mk (fun x => pairL P N0 N1 _ x) ⟨X, v0, v1⟩ (O'.pull 1 rfl)⟩
theorem say1 (h : Own W wx (pairA P N0 N1 g.pr :: l)) (t : ByteArray) (hw : (g.c true).wait.length ≤ 1024) :
    Calls Try.prog 6 #[Ses.chV N1, .slice (some ⟨wx.heap.size, 0, none⟩) 1 1] (wx.alloc (.cells #[.string t] 9)) (OwnTo W (.int .i64 (Ses.sayE (g.c true) [t])) (pairA P N0 N1 (g.say true t).pr :: l)) := by
  obtain ⟨⟨X, v0, v1⟩, O⟩ := h.ex
  simp only [pairL, List.cons_append, List.nil_append] at O
  refine (Ses.say_O ((O.alloc (.cells #[.string t] 9)).pull 2 rfl) (some ⟨wx.heap.size, 0, none⟩) 1 [t] (by simp) hw (Ses.one_row wx t)).mono ?_
  rintro e w' ⟨rfl, O'⟩
  dsimp only [List.eraseIdx] at O'
  exact ⟨rfl, Own.mk (fun x => pairL P N0 N1 _ x) ⟨X, v0, v1⟩ ((O'.pull 2 rfl).pull 2 rfl)⟩
/-- the net's own operations, at the pair -/
theorem takeB (h : Own W wx (pairA P N0 N1 g.pr :: l)) : ∃ X : Nat, P < wx.heap.size ∧ wx.cell? ⟨P, 2, none⟩ = some (ptV X) ∧
    (∀ (k : Nat) (x : Bool × Ses.Post), g.gn[k]? = some x → g.gn.length ≤ 4000 → ∀ e : Ext, Calls Try.prog 11 #[ptV X, .int .i64 (k : Int)] (wx.plus e) (fun e w' => (∃ v, e = .returned v) ∧ Own W w' (pairA P N0 N1 (g.net (g.gn.eraseIdx k)).pr :: l))) ∧
    ∀ (k : Nat) (x : Bool × Ses.Post), g.gn[k]? = some x → g.gn.length ≤ 4000 → ∀ e : Ext, Calls Try.prog 12 #[ptV X, .int .i64 (k : Int)] (wx.plus e) (fun e w' => e = .returned (.int .i64 0) ∧ Own W w' (pairA P N0 N1 (g.net (g.gn ++ [x])).pr :: l)) := by
  obtain ⟨⟨X, v0, v1⟩, O⟩ := h.ex
  simp only [pairL, List.cons_append, List.nil_append] at O
  obtain ⟨lP, qP, fP⟩ := O.cells 0 rfl
  have hl : g.pr.net.length = g.gn.length := by simp [St.pr]
  have hg : ∀ (k : Nat) (x : Bool × Ses.Post), g.gn[k]? = some x → g.pr.net[k]? = some (pkOf x) := fun k x hx => by simp only [St.pr, List.getElem?_map, hx]; rfl
  refine ⟨X, lP, qP 2 (by simp), fun k x hx hn e => ?_, fun k x hx hn e => ?_⟩
  · refine (netTake_O ((O.plus e).pull 3 rfl) k (pkOf x) (hg k x hx) (by omega)).mono ?_
    rintro e w' ⟨rfl, O'⟩
    dsimp only [List.eraseIdx] at O'
    have he : g.pr.net.eraseIdx k = (g.gn.eraseIdx k).map pkOf := by simp only [St.pr]; exact map_erase pkOf g.gn k
    rw [he] at O'
    exact ⟨⟨_, rfl⟩, Own.mk (fun x => pairL P N0 N1 _ x) ⟨X, v0, v1⟩ (((O'.pull 3 rfl).pull 3 rfl).pull 3 rfl |>.perm (by simp only [List.eraseIdx]; exact List.Perm.refl _) |> id)⟩
  · refine (netDouble_O ((O.plus e).pull 3 rfl) k (pkOf x) (hg k x hx) (by omega)).mono ?_
    rintro e w' ⟨rfl, O'⟩
    dsimp only [List.eraseIdx] at O'
    have he : g.pr.net ++ [pkOf x] = (g.gn ++ [x]).map pkOf := by simp [St.pr]
    rw [he] at O'
    exact ⟨rfl, Own.mk (fun x => pairL P N0 N1 _ x) ⟨X, v0, v1⟩ (((O'.pull 3 rfl).pull 3 rfl).pull 3 rfl)⟩
end
/-- what was said, and the pair -/
def saidL (R : Nat) (v0 v1 : Value) (T0 T1 : List (MsgR × MAt)) : List Asn := [cellsA R [v0, v1], slA 6 v0 T0.length (hrC T0), slA 6 v1 T1.length (hrC T1)]
structure Said (W : World) (S : Bool → List MsgR) (T0 T1 : List (MsgR × MAt)) : Prop where
  e0 : S false = T0.map Prod.fst
  e1 : S true = T1.map Prod.fst
  m0 : ∀ x ∈ T0, MRows W x.1 x.2
  m1 : ∀ x ∈ T1, MRows W x.1 x.2
theorem Said.say0 {W : World} {S : Bool → List MsgR} {T0 T1 : List (MsgR × MAt)} {g : St} (h : Said W S T0 T1) (m : MsgR) (a : MAt) (hm : MRows W m a) (he : Ses.sayE (g.c false) [mT m] = 0) : Said W (sayS S g false m) (T0 ++ [(m, a)]) T1 := by
  have hS : sayS S g false m = upd S false (S false ++ [m]) := by unfold sayS; rw [if_pos he]
  refine ⟨by rw [hS, upd_same, h.e0, List.map_append]; rfl, by rw [hS]; exact (upd_not S false _).trans h.e1, fun x hx => ?_, h.m1⟩
  rcases List.mem_append.1 hx with hx | hx
  · exact h.m0 x hx
  · rw [List.mem_singleton.1 hx]; exact hm
theorem Said.say1 {W : World} {S : Bool → List MsgR} {T0 T1 : List (MsgR × MAt)} {g : St} (h : Said W S T0 T1) (m : MsgR) (a : MAt) (hm : MRows W m a) (he : Ses.sayE (g.c true) [mT m] = 0) : Said W (sayS S g true m) T0 (T1 ++ [(m, a)]) := by
  have hS : sayS S g true m = upd S true (S true ++ [m]) := by unfold sayS; rw [if_pos he]
  refine ⟨by rw [hS]; exact (upd_not S true _).trans h.e0, by rw [hS, upd_same, h.e1, List.map_append]; rfl, h.m0, fun x hx => ?_⟩
  rcases List.mem_append.1 hx with hx | hx
  · exact h.m1 x hx
  · rw [List.mem_singleton.1 hx]; exact hm
theorem Said.no {W : World} {S : Bool → List MsgR} {T0 T1 : List (MsgR × MAt)} {g : St} (h : Said W S T0 T1) (k : Bool) (m : MsgR) (he : ¬ Ses.sayE (g.c k) [mT m] = 0) : Said W (sayS S g k m) T0 T1 := by
  have hS : sayS S g k m = S := by unfold sayS; rw [if_neg he]
  rw [hS]
  exact h
theorem hrC_len (T : List (MsgR × MAt)) : (hrC T).length = T.length * 6 := by
  induction T with
  | nil => rfl
  | cons x r ih =>
    show (msC x.1 x.2 ++ hrC r).length = _
    rw [List.length_append, ih, List.length_cons, Nat.add_mul]
    simp [msC]
    omega
theorem hrC_get (T : List (MsgR × MAt)) (i j : Nat) (hi : i < T.length) (hj : j < 6) : (hrC T)[i * 6 + j]? = some (msRow T i j) := by
  induction T generalizing i with
  | nil => simp at hi
  | cons x r ih =>
    show (msC x.1 x.2 ++ hrC r)[i * 6 + j]? = _
    have hx : (msC x.1 x.2).length = 6 := rfl
    cases i with
    | zero =>
      rw [List.getElem?_append_left (by omega)]
      unfold msRow
      simp only [List.getD_cons_zero, Nat.zero_mul, Nat.zero_add]
      rw [List.getD_eq_getElem?_getD, List.getElem?_eq_getElem (by omega)]
      rfl
    | succ i =>
      rw [List.getElem?_append_right (by omega), hx, show (i + 1) * 6 + j - 6 = i * 6 + j by omega, ih i (by simpa using hi)]
      unfold msRow
      simp only [List.getD_cons_succ]
theorem sl_msRows {w : World} {v : Value} {T : List (MsgR × MAt)} (h : Sl w 6 v T.length (hrC T)) : ∃ A c, v = .slice A T.length c ∧ RowsAt w A 6 T.length (msRow T) := by
  obtain ⟨A, c, hv⟩ := h.shape
  exact ⟨A, c, hv, h.rows hv _ fun i j hi hj => hrC_get T i j hi hj⟩
theorem both_rows {W w : World} {l : List Asn} {xs : List (MsgR × MAt)} (O : Own W w (bothA (hrL xs) :: l)) : ∀ x ∈ xs, MRows w x.1 x.2 := by
  intro x hx
  obtain ⟨p, q, rfl⟩ := List.append_of_mem hx
  have O1 := O.both
  have e : hrL (p ++ x :: q) ++ l = hrL p ++ (msgA x.1 x.2 ++ (hrL q ++ l)) := by simp [hrL]
  rw [e] at O1
  have O2 : Own W w (msgA x.1 x.2 ++ (hrL p ++ (hrL q ++ l))) := O1.perm (by
    rw [← List.append_assoc, ← List.append_assoc (msgA x.1 x.2)]
    exact List.Perm.append_right _ List.perm_append_comm)
  exact msgA_rows O2
theorem heard_rows {W w : World} {l : List Asn} {v : Value} {ms : List MsgR} (O : Own W w (heardA v ms :: l)) : ∃ (A : Option Addr) (c : Nat) (H : List (MsgR × MAt)), v = .slice A ms.length c ∧ H.map Prod.fst = ms ∧ RowsAt w A 6 ms.length (msRow H) ∧ ∀ x ∈ H, MRows w x.1 x.2 := by
  obtain ⟨ys, O1⟩ := O.ex
  dsimp only [List.cons_append, List.nil_append] at O1
  have hl : ys.length = ms.length := by obtain ⟨A, ⟨_, h⟩, _⟩ := O1.at (i := 0) rfl; exact h
  have hz : (ms.zip ys).length = ms.length := by rw [List.length_zip]; omega
  have hs := O1.sl 1 rfl
  rw [← hz] at hs
  obtain ⟨A, c, hv, hr⟩ := sl_msRows hs
  rw [hz] at hv hr
  exact ⟨A, c, ms.zip ys, hv, by rw [List.map_fst_zip (by omega)], hr, both_rows (O1.pull 2 rfl)⟩
theorem hrC_snoc (T : List (MsgR × MAt)) (m : MsgR) (a : MAt) : hrC T ++ msC m a = hrC (T ++ [(m, a)]) := by rw [hrC, hrC, List.flatMap_append]; simp
end Go.Proofs.Ythmfmpkkbgapoaa
