/- SessionEnds: walk. -/
import Derived.Test.YtpmebmbibajcoaaOnceT
import Derived.Test.YtpmebmbibajcoaaOnceF
import Derived.Test.YtpmebmbibajcoaaHeadG
set_option linter.unusedSimpArgs false
set_option linter.unusedVariables false
namespace Go.Proofs.Ytpmebmbibajcoaa
open Go.RowKit
/-- where both ends know one another and nothing waits, all is heard -/
theorem all_heard {T : Nat} {next : Int} {d o : Side} {old : List Old} (hI : InvL T next d o old) (hK : K d.c o.c) (ho : o.c.wait = []) : d.heard <+: o.said ∧ d.heard.length = o.said.length := by
  have hp := hI.i.d2.pre
  unfold SAID at hp
  rw [if_pos ⟨hK.1.symm, hK.2⟩] at hp
  refine ⟨hp, Nat.le_antisymm hp.length_le ?_⟩
  obtain ⟨a, ha, hb⟩ := hI.i.o1.wait
  rw [ho, List.append_nil] at ha
  have h1 := hI.net.b.sound hK.2 hK.1
  have h2 := hI.i.d2.last
  rw [ha]
  omega
theorem InvL.wait {T : Nat} {next : Int} {d o : Side} {old : List Old} (h : InvL T next d o old) : d.c.wait.length ≤ T := by
  obtain ⟨a, ha, hb⟩ := h.i.d1.wait
  have h1 := h.i.d1.len
  rw [ha, List.length_append] at h1
  omega
/-- how both ends lie -/
structure EW (w : World) (Bd Bo Nx Ny n1 n2 : Nat) (X1 X2 Y1 Y2 : Ad) : Prop where
  iB : InW Bd w
  io : InW Bo w
  b0 : w.cell? ⟨Bd, 0, none⟩ = some (chV Nx)
  b1 : w.cell? ⟨Bd, 1, none⟩ = some (slV X1 n2)
  b2 : w.cell? ⟨Bd, 2, none⟩ = some (slV X2 n1)
  o0 : w.cell? ⟨Bo, 0, none⟩ = some (chV Ny)
  o1 : w.cell? ⟨Bo, 1, none⟩ = some (slV Y1 n1)
  o2 : w.cell? ⟨Bo, 2, none⟩ = some (slV Y2 n2)
theorem ends_all {W w : World} {P Bd Bo T : Nat} {d o : Side} {next : Int} {old : List Old} {Nx Ny : Nat} {X1 X2 X3 Y1 Y2 Y3 z : Ad} {xs : List Ad} (hI : InvL T next d o old) (hT : T ≤ 3440 + 800) (hK : K d.c o.c) (hd : d.c.wait = []) (ho : o.c.wait = [])
    (O : Own W w (pairL P 0 Bd Bo d o next old (Nx, X1, X2, X3) (Ny, Y1, Y2, Y3) z xs [])) :
    EW w Bd Bo Nx Ny o.said.length d.said.length X1 X2 Y1 Y2 ∧
    Hid (∀ wz, w.Plus wz → Calls Try.prog 25 #[.slice X2.1 o.said.length X2.2, .slice Y1.1 o.said.length Y1.2] wz fun e w' => e = .returned (.bool true) ∧ wz.Plus w') ∧
    Hid (∀ wz, w.Plus wz → Calls Try.prog 25 #[.slice Y2.1 d.said.length Y2.2, .slice X1.1 d.said.length X1.2] wz fun e w' => e = .returned (.bool true) ∧ wz.Plus w') ∧
    Hid (∀ wz, w.Plus wz → Calls Try.prog 16 #[chV Nx] wz fun e w' => e = .returned (.int .i64 0) ∧ wz.Plus w') ∧
    Hid (∀ wz, w.Plus wz → Calls Try.prog 16 #[chV Ny] wz fun e w' => e = .returned (.int .i64 0) ∧ wz.Plus w') ∧ Hid (W.Plus w) := by
  obtain ⟨p1, e1⟩ := all_heard hI hK ho
  obtain ⟨p2, e2⟩ := all_heard hI.swap ⟨hK.2, hK.1⟩ hd
  have hb := hI.bounds
  have hb' := hI.swap.bounds
  obtain ⟨lB, qB, fB⟩ := O.cells 8 rfl
  obtain ⟨lo, qo, fo⟩ := O.cells 3 rfl
  have rH := sl_strs (O.sl 11 rfl) rfl
  have rS := sl_strs (O.sl 10 rfl) rfl
  have rH' := sl_strs (O.sl 6 rfl) rfl
  have rS' := sl_strs (O.sl 5 rfl) rfl
  dsimp only at rH rS rH' rS'
  have b0 := qB 0 (by simp)
  have b1 := qB 1 (by simp)
  have b2 := qB 2 (by simp)
  have o0 := qo 0 (by simp)
  have o1 := qo 1 (by simp)
  have o2 := qo 2 (by simp)
  simp only [List.getElem?_cons_succ, List.getElem?_cons_zero] at b0 b1 b2 o0 o1 o2
  have kB1 := fun (wz : World) (p : w.Plus wz) => begins_any d.heard o.said X2.1 Y1.1 X2.2 Y1.2 wz (by have := hb.d5; omega) (by have := hb'.d4; omega) (rH.plus p) (rS'.plus p) p1
  have kB2 := fun (wz : World) (p : w.Plus wz) => begins_any o.heard d.said Y2.1 X1.1 Y2.2 X1.2 wz (by have := hb'.d5; omega) (by have := hb.d4; omega) (rH'.plus p) (rS.plus p) p2
  have kW1 := fun (wz : World) (p : w.Plus wz) => waiting_O (N := Nx) (c := d.c) (l := _) (W := W) (wx := wz) (by obtain ⟨e, rfl⟩ := p; exact (O.plus e).pull 9 rfl) (by rw [hd]; simp)
  have kW2 := fun (wz : World) (p : w.Plus wz) => waiting_O (N := Ny) (c := o.c) (l := _) (W := W) (wx := wz) (by obtain ⟨e, rfl⟩ := p; exact (O.plus e).pull 4 rfl) (by rw [ho]; simp)
  rw [e1] at kB1 b2
  rw [e2] at kB2 o2
  rw [hd] at kW1
  rw [ho] at kW2
  exact ⟨⟨⟨lB⟩, ⟨lo⟩, b0, b1, b2, o0, o1, o2⟩, Lib.hid kB1, Lib.hid kB2, Lib.hid kW1, Lib.hid kW2, Lib.hid O.p⟩
set_option maxRecDepth 100000 in
set_option maxHeartbeats 4000000 in
theorem ends_any (ts : List TurnR) (A : Option Addr) (cp : Nat) (al : List ByteArray) (Aa : Option Addr) (ca : Nat) (bl : List ByteArray) (Ab : Option Addr) (cb : Nat) (w : World) (hn : ts.length ≤ 140737488351232) (hr : RowsAt w A 4 ts.length (turnRow ts)) (hb : ∀ t ∈ ts, -9223372036854775808 ≤ t.k ∧ t.k ≤ 9223372036854775807)
    (hna : al.length ≤ 140737488351232) (hra : RowsAt w Aa 1 al.length (strAt al)) (hnb : bl.length ≤ 140737488351232) (hrb : RowsAt w Ab 1 bl.length (strAt bl)) :
    Calls Try.prog 8 #[.slice A ts.length cp, .slice Aa al.length ca, .slice Ab bl.length cb] w fun e w' => e = .returned (.bool true) ∧ w.Plus w' := by
  obtain ⟨j0, hj0, hy0, hy1, hy2⟩ := info_parts infoStr
  replace hj0 := Lib.hid hj0
  replace hy0 := Lib.hid hy0
  replace hy1 := Lib.hid hy1
  replace hy2 := Lib.hid hy2
  have kM := Lib.hid (made_any ts A cp w hn hr hb)
  clear hr hb
  replace hra := Lib.hid hra
  replace hrb := Lib.hid hrb
  go_enter Try.func8, Try.ntmps8
  go_upto_region 2 with (go_at_call 23; (with_reducible refine kM.out.mono ?_); rintro e w1 ⟨P, d, o, next, old0, rfl, hI, O1⟩)
  obtain ⟨Bd, Bo, O2⟩ := pairA_B O1
  have kC := Lib.hid (calm_any (B := 2520) O2 ⟨hI, by have := hI.way; omega, hI.wait, hI.swap.wait, .inl rfl⟩ (by omega))
  clear O1 O2 hI kM
  go_upto_region 4 with (go_at_call 24; (with_reducible refine kC.out.mono ?_); rintro e w2 ⟨rfl, T2, d2, o2, old, hI2, hT2, hw2, hwo2, hK, hwt, hwt2, O3⟩)
  clear kC
  obtain ⟨x, y, z, xs, O⟩ := pairB_open O3
  obtain ⟨Nd, ⟨A1, c1⟩, ⟨A2, c2⟩, ⟨A3, c3⟩⟩ := x
  obtain ⟨No, ⟨C1, g1⟩, ⟨C2, g2⟩, ⟨C3, g3⟩⟩ := y
  obtain ⟨lP, lB, lo, p0, p1, b0, o0, fb3, fo3, bb3, oo3⟩ := Fc.of (P := P) (Bd := Bd) (Bo := Bo) (Nd := Nd) (No := No) 13 8 3 O rfl rfl rfl
  haveI : InW P w2 := ⟨lP⟩
  haveI : InW Bd w2 := ⟨lB⟩
  haveI : InW Bo w2 := ⟨lo⟩
  clear fb3 fo3 bb3 oo3
  have hl2 := Lib.hid hT2
  have OD := O.drew
  replace O := Lib.hid trivial
  replace O3 := Lib.hid trivial
  go_region
  obtain ⟨w3, hw3⟩ : ∃ w3, w3 = w2.drew := ⟨_, rfl⟩
  rw [← hw3] at OD ⊢
  clear hw3 p0 p1 b0 o0 lP lB lo
  obtain ⟨lP, lB, lo, p0, p1, b0, o0, fb3, fo3, bb3, oo3⟩ := Fc.of (P := P) (Bd := Bd) (Bo := Bo) (Nd := Nd) (No := No) 13 8 3 OD rfl rfl rfl
  haveI : InW P w3 := ⟨lP⟩
  haveI : InW Bd w3 := ⟨lB⟩
  haveI : InW Bo w3 := ⟨lo⟩
  clear fb3 fo3 bb3 oo3
  have kE := Lib.hid (epochs_O (OD.pull 9 rfl))
  have kF := Lib.hid (fun e => epochs_O ((OD.plus e).pull 4 rfl))
  replace OD := Lib.hid OD
  obtain ⟨hK1, hK2⟩ := hK
  go_upto_region 6 with (go_at_call 22; (with_reducible refine (kE.out).mono ?_); rintro e w' ⟨rfl, ea, rfl⟩)
  go_upto_region 7 with (go_at_call 22; (with_reducible refine (kF.out _).mono ?_); rintro e w' ⟨rfl, eb, rfl⟩)
  have O4 := (OD.out.plus ea).plus eb
  generalize (w3.plus ea).plus eb = w4 at *
  clear OD kE kF p0 p1 b0 o0 lP lB lo
  obtain ⟨lP, lB, lo, p0, p1, b0, o0, fb3, fo3, bb3, oo3⟩ := Fc.of (P := P) (Bd := Bd) (Bo := Bo) (Nd := Nd) (No := No) 13 8 3 O4 rfl rfl rfl
  haveI : InW P w4 := ⟨lP⟩
  haveI : InW Bd w4 := ⟨lB⟩
  haveI : InW Bo w4 := ⟨lo⟩
  clear fb3 fo3 bb3 oo3
  have kW := fun e => waiting_O ((O4.plus e).pull 9 rfl) (by have := hI2.bounds.d3; omega)
  have kV := fun e => waiting_O ((O4.plus e).pull 4 rfl) (by have := hI2.swap.bounds.d3; omega)
  rw [hwt] at kW
  rw [hwt2] at kV
  have kW := Lib.hid kW
  have kV := Lib.hid kV
  have hO := Lib.hid (fun e => pairB_shut (O4.plus e))
  replace O4 := Lib.hid trivial
  refine wp_region_grow (by kernel_rfl) (by kernel_rfl) ?_
  repeat (go_big_quiet_step ((go_at_call 16; first | exact Calls.plus_of (kW.out _) | exact Calls.plus_of (kV.out _))))
  refine wpQuiet_nil ?_
  intro ex
  go_upto_block 0 with fail
  have OX := hO.out ex
  generalize w4.plus ex = w5 at *
  have hl0 := Lib.hid (show d2.c.wait.length = 0 by rw [hwt]; rfl)
  have hl1 := Lib.hid (show o2.c.wait.length = 0 by rw [hwt2]; rfl)
  clear hO kW kV hK1 hK2 hwt hwt2 p0 p1 b0 o0 lP lB lo
  go_cut [15] (fun _ wz => ∃ (i : Nat) (d : Side), i ≤ 60 ∧ InvL (T2 + i) next d o2 old ∧ d.way = [] ∧ d.c.wait.length ≤ 60 ∧ Own w wz [pairB P 0 Bd Bo d o2 next old])
  case first =>
    go_wp2_with fail
    go_loopw [15] (fun v wr => ∃ (i : Nat) (d : Side), i ≤ al.length ∧ i ≤ 60 ∧ v = .int .i64 i ∧ InvL (T2 + i) next d o2 old ∧ d.way = [] ∧ d.c.wait.length ≤ i ∧ Own w wr [pairB P 0 Bd Bo d o2 next old]) (fun v _ => 60 - (intOf v).toNat)
    case atStart => exact ⟨0, d2, Nat.zero_le _, by omega, rfl, hI2, hw2, by rw [hl0.out]; exact Nat.le_refl _, OX⟩
    case round =>
      clear OX hI2 hw2
      obtain ⟨i, d, hi, hi6, rfl, hI, hway, hwt, OX⟩ := hrel
      by_cases hlt : i < al.length
      · by_cases h60 : i < 60
        · have h60i : (i : Int) < 60 := by omega
          -- an end says a text
          obtain ⟨x, y, z, xs, O⟩ := pairB_open OX
          obtain ⟨Nd, ⟨A1, c1⟩, ⟨A2, c2⟩, ⟨A3, c3⟩⟩ := x
          obtain ⟨lB, qB, fB⟩ := O.cells 8 rfl
          have b0 := qB 0 (by simp)
          simp only [List.getElem?_cons_succ, List.getElem?_cons_zero, slV] at b0
          haveI : InW Bd wr := ⟨lB⟩
          clear qB fB
          have hrow0 := fun (wz : World) (p : w.Plus wz) => (hra.out.plus p)
          obtain ⟨g, oo, hA, hg, hc⟩ := hrow0 wr O.p (by omega)
          subst hA
          have x3 := hc i 0 hlt (by omega)
          have hat := fun (wz : World) (p : w.Plus wz) => (show g < wz.heap.size ∧ wz.cell? ⟨g, oo + (i * 1 + 0), none⟩ = some (strAt al i 0) from by
            obtain ⟨g', oo', he, hg', hc'⟩ := hrow0 wz p (by omega)
            cases he
            exact ⟨hg', hc' i 0 hlt (by omega)⟩)
          clear hc hrow0
          unfold strAt at x3 hat
          simp only [Nat.add_zero, Nat.mul_one] at x3 hat
          generalize al.getD i ⟨#[]⟩ = t at *
          haveI : InW g wr := ⟨hg⟩
          replace hat := Lib.hid hat
          have hrow := (one_row wr t).plus (Plus.drew (Plus.refl _))
          have hbb := hI.bounds
          have hwl : d.c.wait.length ≤ 1000 := by omega
          have kS := say_O (((O.pull 9 rfl).alloc (.cells #[.string t] 9)).drew) (some ⟨wr.heap.size, 0, none⟩) 1 [t] (by simp) (by omega) hrow
          rw [show [t].length = 1 from rfl] at kS
          have hE : sayC d.c [t] = if sayE d.c [t] = 0 then { d.c with wait := d.c.wait ++ [t] } else d.c := rfl
          have hIn := hI.say t
          have hSd : saySide d t = ⟨sayC d.c [t], if sayE d.c [t] = 0 then d.said ++ [t] else d.said, d.heard, d.way⟩ := rfl
          rw [hSd] at hIn
          have hwC : (sayC d.c [t]).wait.length ≤ i + 1 := by
            rw [hE]
            split
            · simp only [List.length_append, List.length_cons, List.length_nil]; omega
            · omega
          have hsl : d.said.length ≤ 100000 := by have := hbb.d4; omega
          generalize sayC d.c [t] = C at *
          generalize sayE d.c [t] = E at *
          have kX : ∀ (wz : World), Own w wz (chanA Nd C :: (pairL P 0 Bd Bo d o2 next old (Nd, (A1, c1), (A2, c2), A3, c3) y z xs []).eraseIdx 9) →
              Bd < wz.heap.size ∧ wz.cell? ⟨Bd, 0, none⟩ = some (chV Nd) ∧ g < wz.heap.size ∧ wz.cell? ⟨g, oo + i, none⟩ = some (.string t) := fun wz O' => by
            obtain ⟨lB, qB, fB⟩ := O'.cells 9 rfl
            obtain ⟨h1, h2⟩ := hat.out wz O'.p
            exact ⟨lB, qB 0 (by simp), h1, h2⟩
          replace kX := Lib.hid kX
          replace kS := Lib.hid kS
          replace hIn := Lib.hid hIn
          replace hI := Lib.hid hI
          replace OX := Lib.hid trivial
          clear hE hSd hrow hbb
          go_upto_region 12 with fail
          go_cut [97] (fun v wz => v = .bool (decide (E = 0)) ∧ Own w wz (pairL P 0 Bd Bo ⟨C, d.said, d.heard, d.way⟩ o2 next old (Nd, (A1, c1), (A2, c2), A3, c3) y z xs []))
          case first =>
            go_region_held3 (fun w' => w'.cell? ⟨Bd, 0, none⟩ = some (chV Nd) ∧ w'.cell? ⟨g, oo + i, none⟩ = some (.string t)) (simp [go_sem, *]) ((go_at_call 13; (with_reducible refine (kS.out).mono ?_); rintro e w4 ⟨rfl, O4⟩; obtain ⟨lB4, b04, lg4, x34⟩ := kX.out _ O4; haveI : InW g w4 := ⟨lg4⟩; haveI : InW Bd w4 := ⟨lB4⟩))
            all_goals
              have O5 := Own.push (pairL P 0 Bd Bo d o2 next old (Nd, (A1, c1), (A2, c2), A3, c3) y z xs []) 9 (by simp [pairL, oldsF, sideF]) O4
              replace O5 := Lib.hid O5
              clear O4
              go_wp2_with fail
              go_meet
              exact ⟨by rw [Bool.beq_eq_decide_eq], O5.out⟩
          clear kS kX b0 x3 lB O
          obtain ⟨rfl, O⟩ := hcut
          obtain ⟨lB, qB, fB⟩ := O.cells 8 rfl
          have b1 := qB 1 (by simp)
          simp only [List.getElem?_cons_succ, List.getElem?_cons_zero, slV] at b1
          have fb1 := fB 1
          haveI : InW Bd wc := ⟨lB⟩
          obtain ⟨lg, x3⟩ := hat.out wc O.p
          haveI : InW g wc := ⟨lg⟩
          clear qB fB
          by_cases hE0 : E = 0
          · subst hE0
            have OP := Lib.hid ((O.pull 10 rfl).alloc (.cells #[.string t] 9)).drew
            replace O := Lib.hid O
            have hIn' := hIn.out
            rw [if_pos rfl] at hIn'
            replace hIn' := Lib.hid hIn'
            go_upto_region 13 with fail
            go_region_law ((go_loud (refine step_append_O (by rfl) _ _ 22 22 (by rfl) 9 j0 (.string ⟨#[]⟩) 1 16 underStrs hj0.out hy0.out hy1.out hy2.out rfl (by rfl) OP.out (xv := .slice (some ⟨wc.heap.size, 0, none⟩) 1 1) (by rfl) (src_strAt _ wc.heap.size t (by simp [go_sem])) (by unfold maxLen; first | omega | (simp only; omega)) (by first | omega | (simp only; omega)) ?_); intro A6 c6 w6 O6; obtain ⟨lB6, qB6, fB6⟩ := O6.cells 9 rfl; have b16 := qB6 1 (by simp); simp only [List.getElem?_cons_succ, List.getElem?_cons_zero, slV] at b16; have fb16 := fB6 1; haveI : InW Bd w6 := ⟨lB6⟩; clear qB6 fB6))
            all_goals
              dsimp only at O6
              have O9 := said_push (W := w) (P := P) (k := 0) (Bd := Bd) (Bo := Bo) (c := C) (S := d.said) (H := d.heard) (way := d.way) (o := o2) (next := next) (old := old) (Nd := Nd) (a1 := (A1, c1)) (a2 := (A2, c2)) (a3 := (A3, c3)) (y := y) (z := z) (xs := xs) (l := []) O6
              replace O9 := Lib.hid (pairB_shut O9)
              clear O6 OP O b16 fb16 lB6
              go_wp2_with fail
              go_roundw
              case rel => exact ⟨i + 1, _, hlt, h60, by go_num, hIn'.out, hway, hwC, id O9.out⟩
              case measure => simp [intOf]; omega
          · have hEb : decide (E = 0) = false := decide_eq_false hE0
            have hIn' := hIn.out
            rw [if_neg hE0] at hIn'
            replace hIn' := Lib.hid hIn'
            have O9 := Lib.hid (pairB_shut O)
            replace O := Lib.hid O
            replace hE0 := Lib.hid hE0
            go_wp2_with fail
            go_roundw
            case rel => exact ⟨i + 1, _, hlt, h60, by go_num, hIn'.out, hway, hwC, id O9.out⟩
            case measure => simp [intOf]; omega

        · have h60i : ¬ (i : Int) < 60 := by omega
          have OX := Lib.hid OX
          go_wp2_with fail
          go_meet
          exact ⟨i, d, hi6, hI, hway, by omega, OX.out⟩
      · have OX := Lib.hid OX
        go_wp2_with fail
        go_meet
        exact ⟨i, d, hi6, hI, hway, by omega, OX.out⟩
  clear OX hI2 hw2 hl0 hra hna
  obtain ⟨i1, d3, hi1, hI2, hw2, hwt3, OX⟩ := hcut
  have OX := pairB_swap OX
  go_upto_block 2 with fail
  go_cut [16] (fun _ wz => ∃ (i : Nat) (d : Side), i ≤ 60 ∧ InvL (T2 + i1 + i) next d d3 old ∧ d.way = [] ∧ d.c.wait.length ≤ 60 ∧ Own w wz [pairB P 1 Bo Bd d d3 next old])
  case first =>
    go_wp2_with fail
    go_loopw [16] (fun v wr => ∃ (i : Nat) (d : Side), i ≤ bl.length ∧ i ≤ 60 ∧ v = .int .i64 i ∧ InvL (T2 + i1 + i) next d d3 old ∧ d.way = [] ∧ d.c.wait.length ≤ i ∧ Own w wr [pairB P 1 Bo Bd d d3 next old]) (fun v _ => 60 - (intOf v).toNat)
    case atStart => exact ⟨0, o2, Nat.zero_le _, by omega, rfl, hI2.swap, hwo2, by rw [hl1.out]; exact Nat.le_refl _, OX⟩
    case round =>
      clear OX hI2 hwo2
      obtain ⟨i, d, hi, hi6, rfl, hI, hway, hwt, OX⟩ := hrel
      by_cases hlt : i < bl.length
      · by_cases h60 : i < 60
        · have h60i : (i : Int) < 60 := by omega
          -- an end says a text
          obtain ⟨x, y, z, xs, O⟩ := pairB_open OX
          obtain ⟨Nd, ⟨A1, c1⟩, ⟨A2, c2⟩, ⟨A3, c3⟩⟩ := x
          obtain ⟨lB, qB, fB⟩ := O.cells 8 rfl
          have b0 := qB 0 (by simp)
          simp only [List.getElem?_cons_succ, List.getElem?_cons_zero, slV] at b0
          haveI : InW Bo wr := ⟨lB⟩
          clear qB fB
          have hrow0 := fun (wz : World) (p : w.Plus wz) => (hrb.out.plus p)
          obtain ⟨g, oo, hA, hg, hc⟩ := hrow0 wr O.p (by omega)
          subst hA
          have x3 := hc i 0 hlt (by omega)
          have hat := fun (wz : World) (p : w.Plus wz) => (show g < wz.heap.size ∧ wz.cell? ⟨g, oo + (i * 1 + 0), none⟩ = some (strAt bl i 0) from by
            obtain ⟨g', oo', he, hg', hc'⟩ := hrow0 wz p (by omega)
            cases he
            exact ⟨hg', hc' i 0 hlt (by omega)⟩)
          clear hc hrow0
          unfold strAt at x3 hat
          simp only [Nat.add_zero, Nat.mul_one] at x3 hat
          generalize bl.getD i ⟨#[]⟩ = t at *
          haveI : InW g wr := ⟨hg⟩
          replace hat := Lib.hid hat
          have hrow := (one_row wr t).plus (Plus.drew (Plus.refl _))
          have hbb := hI.bounds
          have hwl : d.c.wait.length ≤ 1000 := by omega
          have kS := say_O (((O.pull 9 rfl).alloc (.cells #[.string t] 9)).drew) (some ⟨wr.heap.size, 0, none⟩) 1 [t] (by simp) (by omega) hrow
          rw [show [t].length = 1 from rfl] at kS
          have hE : sayC d.c [t] = if sayE d.c [t] = 0 then { d.c with wait := d.c.wait ++ [t] } else d.c := rfl
          have hIn := hI.say t
          have hSd : saySide d t = ⟨sayC d.c [t], if sayE d.c [t] = 0 then d.said ++ [t] else d.said, d.heard, d.way⟩ := rfl
          rw [hSd] at hIn
          have hwC : (sayC d.c [t]).wait.length ≤ i + 1 := by
            rw [hE]
            split
            · simp only [List.length_append, List.length_cons, List.length_nil]; omega
            · omega
          have hsl : d.said.length ≤ 100000 := by have := hbb.d4; omega
          generalize sayC d.c [t] = C at *
          generalize sayE d.c [t] = E at *
          have kX : ∀ (wz : World), Own w wz (chanA Nd C :: (pairL P 1 Bo Bd d d3 next old (Nd, (A1, c1), (A2, c2), A3, c3) y z xs []).eraseIdx 9) →
              Bo < wz.heap.size ∧ wz.cell? ⟨Bo, 0, none⟩ = some (chV Nd) ∧ g < wz.heap.size ∧ wz.cell? ⟨g, oo + i, none⟩ = some (.string t) := fun wz O' => by
            obtain ⟨lB, qB, fB⟩ := O'.cells 9 rfl
            obtain ⟨h1, h2⟩ := hat.out wz O'.p
            exact ⟨lB, qB 0 (by simp), h1, h2⟩
          replace kX := Lib.hid kX
          replace kS := Lib.hid kS
          replace hIn := Lib.hid hIn
          replace hI := Lib.hid hI
          replace OX := Lib.hid trivial
          clear hE hSd hrow hbb
          go_upto_region 17 with fail
          go_cut [131] (fun v wz => v = .bool (decide (E = 0)) ∧ Own w wz (pairL P 1 Bo Bd ⟨C, d.said, d.heard, d.way⟩ d3 next old (Nd, (A1, c1), (A2, c2), A3, c3) y z xs []))
          case first =>
            go_region_held3 (fun w' => w'.cell? ⟨Bo, 0, none⟩ = some (chV Nd) ∧ w'.cell? ⟨g, oo + i, none⟩ = some (.string t)) (simp [go_sem, *]) ((go_at_call 13; (with_reducible refine (kS.out).mono ?_); rintro e w4 ⟨rfl, O4⟩; obtain ⟨lB4, b04, lg4, x34⟩ := kX.out _ O4; haveI : InW g w4 := ⟨lg4⟩; haveI : InW Bo w4 := ⟨lB4⟩))
            all_goals
              have O5 := Own.push (pairL P 1 Bo Bd d d3 next old (Nd, (A1, c1), (A2, c2), A3, c3) y z xs []) 9 (by simp [pairL, oldsF, sideF]) O4
              replace O5 := Lib.hid O5
              clear O4
              go_wp2_with fail
              go_meet
              exact ⟨by rw [Bool.beq_eq_decide_eq], O5.out⟩
          clear kS kX b0 x3 lB O
          obtain ⟨rfl, O⟩ := hcut
          obtain ⟨lB, qB, fB⟩ := O.cells 8 rfl
          have b1 := qB 1 (by simp)
          simp only [List.getElem?_cons_succ, List.getElem?_cons_zero, slV] at b1
          have fb1 := fB 1
          haveI : InW Bo wc := ⟨lB⟩
          obtain ⟨lg, x3⟩ := hat.out wc O.p
          haveI : InW g wc := ⟨lg⟩
          clear qB fB
          by_cases hE0 : E = 0
          · subst hE0
            have OP := Lib.hid ((O.pull 10 rfl).alloc (.cells #[.string t] 9)).drew
            replace O := Lib.hid O
            have hIn' := hIn.out
            rw [if_pos rfl] at hIn'
            replace hIn' := Lib.hid hIn'
            go_upto_region 18 with fail
            go_region_law ((go_loud (refine step_append_O (by rfl) _ _ 22 22 (by rfl) 9 j0 (.string ⟨#[]⟩) 1 16 underStrs hj0.out hy0.out hy1.out hy2.out rfl (by rfl) OP.out (xv := .slice (some ⟨wc.heap.size, 0, none⟩) 1 1) (by rfl) (src_strAt _ wc.heap.size t (by simp [go_sem])) (by unfold maxLen; first | omega | (simp only; omega)) (by first | omega | (simp only; omega)) ?_); intro A6 c6 w6 O6; obtain ⟨lB6, qB6, fB6⟩ := O6.cells 9 rfl; have b16 := qB6 1 (by simp); simp only [List.getElem?_cons_succ, List.getElem?_cons_zero, slV] at b16; have fb16 := fB6 1; haveI : InW Bo w6 := ⟨lB6⟩; clear qB6 fB6))
            all_goals
              dsimp only at O6
              have O9 := said_push (W := w) (P := P) (k := 1) (Bd := Bo) (Bo := Bd) (c := C) (S := d.said) (H := d.heard) (way := d.way) (o := d3) (next := next) (old := old) (Nd := Nd) (a1 := (A1, c1)) (a2 := (A2, c2)) (a3 := (A3, c3)) (y := y) (z := z) (xs := xs) (l := []) O6
              replace O9 := Lib.hid (pairB_shut O9)
              clear O6 OP O b16 fb16 lB6
              go_wp2_with fail
              go_roundw
              case rel => exact ⟨i + 1, _, hlt, h60, by go_num, hIn'.out, hway, hwC, id O9.out⟩
              case measure => simp [intOf]; omega
          · have hEb : decide (E = 0) = false := decide_eq_false hE0
            have hIn' := hIn.out
            rw [if_neg hE0] at hIn'
            replace hIn' := Lib.hid hIn'
            have O9 := Lib.hid (pairB_shut O)
            replace O := Lib.hid O
            replace hE0 := Lib.hid hE0
            go_wp2_with fail
            go_roundw
            case rel => exact ⟨i + 1, _, hlt, h60, by go_num, hIn'.out, hway, hwC, id O9.out⟩
            case measure => simp [intOf]; omega

        · have h60i : ¬ (i : Int) < 60 := by omega
          have OX := Lib.hid OX
          go_wp2_with fail
          go_meet
          exact ⟨i, d, hi6, hI, hway, by omega, OX.out⟩
      · have OX := Lib.hid OX
        go_wp2_with fail
        go_meet
        exact ⟨i, d, hi6, hI, hway, by omega, OX.out⟩
  clear OX hI2 hwo2 hl1 hrb hnb
  obtain ⟨i2, e3, hi2, hI3, hwe3, hwt4, OX⟩ := hcut
  have OX := pairB_swap' OX
  have hI3 := hI3.swap
  have kC := Lib.hid (calm_any (B := 3440) OX.drew ⟨hI3, by rw [hw2, hwe3]; simp only [List.length_nil]; omega, by omega, by omega, .inl rfl⟩ (by omega))
  clear OX hI3 hw2 hwe3 hwt3 hwt4
  go_upto_region 19 with fail
  simp only [List.append_eq, List.cons_append, List.nil_append]
  refine wp_region_head 2 (by kernel_rfl) (by kernel_rfl) (by kernel_rfl) (by kernel_rfl) ?_
  simp only [List.take_succ_cons, List.take_zero, List.drop_succ_cons, List.drop_zero]
  go_wp2_with (go_at_call 24; (with_reducible refine kC.out.mono ?_); rintro e w6 ⟨rfl, T6, d6, o6, old6, hI6, hT6, hw6, hwo6, hK6, hwt6, hwu6, O6⟩)
  obtain ⟨⟨Nx, ⟨X1, k1⟩, ⟨X2, k2⟩, ⟨X3, k3⟩⟩, ⟨Ny, ⟨Y1, r1⟩, ⟨Y2, r2⟩, ⟨Y3, r3⟩⟩, z6, xs6, O6⟩ := pairB_open O6
  obtain ⟨⟨iB, io, b0, b1, b2, o0, o1, o2⟩, kB1, kB2, kW1, kW2, hp6⟩ := ends_all hI6 hT6 hK6 hwt6 hwu6 O6
  haveI := iB
  haveI := io
  clear O6 hI6 hK6 hw6 hwo6 hwt6 hwu6 hT6 kC
  refine HeadPost.mk ?_
  repeat (go_big_quiet_step (first | (go_at_call 25; first | (with_reducible exact Calls.plus_of (kB1.out _ (Plus.plus (Plus.refl _) _))) | (with_reducible exact Calls.plus_of (kB2.out _ (Plus.plus (Plus.refl _) _)))) | (go_at_call 16; first | (with_reducible exact Calls.plus_of (kW1.out _ (Plus.plus (Plus.refl _) _))) | (with_reducible exact Calls.plus_of (kW2.out _ (Plus.plus (Plus.refl _) _)))) | (go_at_call 17; exact Calls.plus_of (awake_any _))))
  refine wpQuiet_nil ?_
  intro ex
  go_wp2_with fail
  go_ret
  exact ⟨rfl, by (repeat (first | exact hp6.out | apply Plus.plus | apply Plus.alloc | apply Plus.drew))⟩
end Go.Proofs.Ytpmebmbibajcoaa
