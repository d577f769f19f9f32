/- TopMail: walk. -/
import Derived.Test.YthmfmpkkbgapoaaGF
import Derived.Deep.CutBlock
set_option linter.unusedSimpArgs false
set_option linter.unusedVariables false
namespace Go.Proofs.Ythmfmpkkbgapoaa
open Go.RowKit Octs
def SayS (W : World) (P N0 N1 R n0 n1 : Nat) (wr : World) : Prop := ∃ S g T0 T1 v0 v1, SayI S n0 n1 g ∧ Said W S T0 T1 ∧ Own W wr (pairA P N0 N1 g.pr :: saidL R v0 v1 T0 T1)
def EvS (W : World) (P N0 N1 R : Nat) (v0 v1 : Value) (T0 T1 : List (MsgR × MAt)) (S : Bool → List MsgR) (n : Nat) (wr : World) : Prop := ∃ g, GI S g ∧ g.gn.length ≤ 8 * n ∧ Own W wr (pairA P N0 N1 g.pr :: saidL R v0 v1 T0 T1)
theorem EvS.mono {W : World} {P N0 N1 R : Nat} {v0 v1 : Value} {T0 T1 : List (MsgR × MAt)} {S : Bool → List MsgR} {n m : Nat} {wr : World} (h : EvS W P N0 N1 R v0 v1 T0 T1 S n wr) (hm : n ≤ m) : EvS W P N0 N1 R v0 v1 T0 T1 S m wr := by
  obtain ⟨g, h1, h2, h3⟩ := h
  exact ⟨g, h1, by omega, h3⟩
/-- the rows that are held side by side, and what the document says of them -/
def SameR (w5 : World) (A B : Option Addr) (n : Nat) : Prop := ∀ (i : Nat), i < n → ∃ (m : MsgR) (a a' : MAt), (∀ wq, w5.Plus wq → ∃ g o, A = some ⟨g, o, none⟩ ∧ g < wq.heap.size ∧
    wq.cell? ⟨g, o + i * 6, none⟩ = some (.int .i64 m.kind) ∧ wq.cell? ⟨g, o + i * 6 + 1, none⟩ = some (.int .i64 m.t) ∧ wq.cell? ⟨g, o + i * 6 + 2, none⟩ = some (.int .i64 m.n) ∧
    wq.cell? ⟨g, o + i * 6 + 3, none⟩ = some (.slice a.Ac m.cs.length a.cc) ∧ wq.cell? ⟨g, o + i * 6 + 4, none⟩ = some (.slice a.Ab m.bs.length a.cb) ∧ wq.cell? ⟨g, o + i * 6 + 5, none⟩ = some (.slice a.Ai m.is.length a.ci)) ∧
  (∀ wq, w5.Plus wq → ∃ g o, B = some ⟨g, o, none⟩ ∧ g < wq.heap.size ∧
    wq.cell? ⟨g, o + i * 6, none⟩ = some (.int .i64 m.kind) ∧ wq.cell? ⟨g, o + i * 6 + 1, none⟩ = some (.int .i64 m.t) ∧ wq.cell? ⟨g, o + i * 6 + 2, none⟩ = some (.int .i64 m.n) ∧
    wq.cell? ⟨g, o + i * 6 + 3, none⟩ = some (.slice a'.Ac m.cs.length a'.cc) ∧ wq.cell? ⟨g, o + i * 6 + 4, none⟩ = some (.slice a'.Ab m.bs.length a'.cb) ∧ wq.cell? ⟨g, o + i * 6 + 5, none⟩ = some (.slice a'.Ai m.is.length a'.ci)) ∧
  ∀ wq, w5.Plus wq → Calls Try.prog 14 #[mV m a, mV m a'] wq fun e w' => e = .returned (.bool true) ∧ wq.Plus w'
theorem same_rows {w5 : World} (H T : List (MsgR × MAt)) (hH : H.map Prod.fst = T.map Prod.fst) (hk : ∀ x ∈ T, okM x.1 = true) (hm : ∀ x ∈ H, MRows w5 x.1 x.2) (hm' : ∀ x ∈ T, MRows w5 x.1 x.2) {A B : Option Addr} {n : Nat} (hn : n = T.length) (hr0 : RowsAt w5 A 6 n (msRow H)) (hs0 : RowsAt w5 B 6 n (msRow T)) : SameR w5 A B n := fun i hi => by
  have hl : H.length = T.length := by simpa using congrArg List.length hH
  obtain ⟨x, hx⟩ : ∃ x, H[i]? = some x := ⟨_, List.getElem?_eq_getElem (by omega)⟩
  obtain ⟨y, hy⟩ : ∃ y, T[i]? = some y := ⟨_, List.getElem?_eq_getElem (by omega)⟩
  have hxy : x.1 = y.1 := by
    have := congrArg (fun l => l[i]?) hH
    simp only [List.getElem?_map, hx, hy, Option.map_some, Option.some.injEq] at this
    exact this
  have h1 := hm x (List.mem_of_getElem? hx)
  have h2 := hm' y (List.mem_of_getElem? hy)
  have h3 := hk y (List.mem_of_getElem? hy)
  have h4 := fun (wq : World) (p : w5.Plus wq) => ms_row (hr0.plus p) i hi x hx
  have h5 := fun (wq : World) (p : w5.Plus wq) => ms_row (hs0.plus p) i hi y hy
  obtain ⟨m, a⟩ := x
  obtain ⟨m', a'⟩ := y
  simp only at hxy
  subst hxy
  obtain ⟨l1, l2, l3⟩ := okM_len h3
  exact ⟨m, a, a', h4, h5, fun wq p => sameM_any wq m a a' (h1.plus p) (h2.plus p) l1 l2 l3⟩
set_option maxRecDepth 100000 in
set_option maxHeartbeats 4000000 in
theorem topMail_any (xa xb : List (MsgR × MAt)) (ls : List IdR) (Aa Ab Al : Option Addr) (ca cb cl : Nat) (W : World) (ha : RowsAt W Aa 6 xa.length (msRow xa)) (hb : RowsAt W Ab 6 xb.length (msRow xb)) (hl : RowsAt W Al 3 ls.length (rowFI ls))
    (ma : ∀ x ∈ xa, MRows W x.1 x.2) (mb : ∀ x ∈ xb, MRows W x.1 x.2) (la : xa.length ≤ 9223372036854775807) (lb : xb.length ≤ 9223372036854775807) (ll : ls.length ≤ 9223372036854775807) :
    Calls Try.prog 3 #[.slice Aa xa.length ca, .slice Ab xb.length cb, .slice Al ls.length cl] W fun e w' => e = .returned (.bool true) ∧ W.Plus w' := by
  obtain ⟨na, hna⟩ : ∃ na, na = xa.length := ⟨_, rfl⟩
  obtain ⟨nb, hnb⟩ : ∃ nb, nb = xb.length := ⟨_, rfl⟩
  obtain ⟨nl, hnl⟩ : ∃ nl, nl = ls.length := ⟨_, rfl⟩
  rw [← hna] at ha la ⊢
  rw [← hnb] at hb lb ⊢
  rw [← hnl] at hl ll ⊢
  replace hna := Lib.hid hna
  replace hnb := Lib.hid hnb
  replace hnl := Lib.hid hnl
  replace ha := Lib.hid ha
  replace hb := Lib.hid hb
  replace hl := Lib.hid hl
  replace ma := Lib.hid ma
  replace mb := Lib.hid mb
  have kM := Lib.hid (met_O W)
  go_enter Try.func3, Try.ntmps3
  go_upto_region 2 with (go_at_call 4; (with_reducible refine kM.out.mono ?_); rintro e w1 ⟨P, N0, N1, g, rfl, hD, O1⟩)
  clear kM
  have O2 := O1.newCells [.slice none 0 0, .slice none 0 0] 27
  clear O1
  go_upto_region 5 with fail
  generalize w1.heap.size = R at *
  generalize hw2 : w1.alloc _ = w2 at *
  clear hw2
  have hS0 : SayS W P N0 N1 R 0 0 w2 := ⟨_, g, [], [], .slice none 0 0, .slice none 0 0, hD.sayI, ⟨rfl, rfl, (fun x hx => by cases hx), (fun x hx => by cases hx)⟩, (((Own.nilSl (Own.nilSl O2 6) 6).pull 2 rfl).pull 3 rfl)⟩
  clear O2 hD g
  replace hS0 := Lib.hid hS0
  go_wp2_with fail
  go_loopw [10] (fun i wr => ∃ n : Nat, n ≤ 12 ∧ i = .int .i64 (n : Int) ∧ SayS W P N0 N1 R n n wr) (fun i _ => 12 - (intOf i).toNat)
  case atStart => exact ⟨0, by omega, rfl, hS0.out⟩
  case round =>
    clear hS0
    obtain ⟨i, hi, rfl, hO⟩ := hrel
    replace hO := Lib.hid hO
    by_cases h12 : i < 12
    · have h12i : (i : Int) < 12 := by omega
      go_wp2_with fail
      go_loopw [11] (fun k wz => ∃ j : Nat, j ≤ 2 ∧ k = .int .i64 (j : Int) ∧ SayS W P N0 N1 R (i + min j 1) (i + (j - 1)) wz) (fun k _ => 2 - (intOf k).toNat)
      case atStart => exact ⟨0, by omega, rfl, hO.out⟩
      case round =>
        clear hO
        obtain ⟨j, hj, rfl, S, g, T0, T1, v0, v1, hI, hS, O⟩ := hrel
        rename World => wz
        rcases (by omega : j = 0 ∨ j = 1 ∨ j = 2) with rfl | rfl | rfl
        · skip
          -- node 0 says its i-th message, if there is one; O : Own W wz (pairA :: saidL), hI : SayI S M0 M1 g, hS : Said W S T0 T1
          by_cases hlt : i < na
          · have hlti : ¬ (na : Int) ≤ (i : Int) := by omega
            have hlti2 : (i : Int) < (na : Int) := by omega
            obtain ⟨x, hx⟩ : ∃ x, xa[i]? = some x := ⟨_, List.getElem?_eq_getElem (by rw [← hna.out]; exact hlt)⟩
            have hxm := ma.out x (List.mem_of_getElem? hx)
            obtain ⟨m, a⟩ := x
            dsimp only at hxm
            have hrow := Lib.hid (fun (wq : World) (p : W.Plus wq) => ms_row (ha.out.plus p) i hlt (m, a) hx)
            obtain ⟨gg, oo, hA, hg, d0, d1, d2, d3, d4, d5⟩ := hrow.out wz O.p
            dsimp only at d0 d1 d2 d3 d4 d5
            haveI : InW gg wz := ⟨hg⟩
            have kE := Lib.hid (encode_any m a wz (hxm.plus O.p))
            by_cases hok : okM m = true
            · have hE : encV m = .tuple #[.string (mT m), .int .i64 0] := by unfold encV; rw [if_pos hok]; rfl
              rw [hE] at kE
              have kS := fun (e : Ext) => (by
                have k0 := say0 (O.plus e) (mT m) (by have := (hI.gi.bnd false).w; omega)
                rw [World.size_plus_eq] at k0
                exact k0 : Calls Try.prog 6 #[Ses.chV N0, .slice (some ⟨wz.heap.size + e.objs.size, 0, none⟩) 1 1] ((wz.plus e).alloc (.cells #[.string (mT m)] 9)) (OwnTo W (.int .i64 (Ses.sayE (g.c false) [mT m])) (pairA P N0 N1 (g.say false (mT m)).pr :: saidL R v0 v1 T0 T1)))
              have hI2 := hI.say false m hok (by simp; omega)
              simp only [Bool.false_eq_true, if_false, if_true] at hI2
              replace hI2 := hI2.mono (m0 := (i + min (0 + 1) 1)) (m1 := (i + (0 + 1 - 1))) (by omega) (by omega)
              obtain ⟨lP, p0, p1, -⟩ := pairB O
              haveI : InW P wz := ⟨lP⟩
              have hS1 := Lib.hid (fun (he : Ses.sayE (g.c false) [mT m] = 0) => hS.say0 m a hxm he)
              have hS2 := Lib.hid (fun (he : ¬ Ses.sayE (g.c false) [mT m] = 0) => hS.no false m he)
              have hTl : T0.length ≤ 12 ∧ T1.length ≤ 12 := by
                have h1 := congrArg List.length hS.e0
                have h2 := congrArg List.length hS.e1
                rw [List.length_map] at h1 h2
                have h3 := hI.gi.few false
                have h4 := hI.gi.few true
                omega
              generalize hsm : mT m = sm at *
              replace hsm := Lib.hid hsm
              replace kS := Lib.hid kS
              replace hI2 := Lib.hid hI2
              replace hx := Lib.hid hx
              replace hxm := Lib.hid hxm
              have O' := Lib.hid O
              clear O hE hok hI hS
              obtain ⟨E, hEE⟩ : ∃ E, E = Ses.sayE (g.c false) [sm] := ⟨_, rfl⟩
              rw [← hEE] at kS hS1 hS2
              replace hEE := Lib.hid hEE
              subst hA
              by_cases hE0 : E = 0
              · subst hE0
                replace hS1 := Lib.hid (hS1.out rfl)
                clear hS2
                go_upto_region 16 with (go_at_call 5; (with_reducible refine kE.out.mono ?_); rintro e w' ⟨rfl, e0, rfl⟩)
                clear kE d0 d1 d2 d3 d4 d5
                go_upto_region 17 with (go_at_call 6; (with_reducible refine (kS.out _).mono ?_); rintro e w4 ⟨rfl, O4⟩)
                clear kS p0 p1 lP O' hg
                have O5 := O4.pull 2 rfl
                clear O4
                dsimp only [saidL, List.eraseIdx] at O5
                obtain ⟨B, cB, hB⟩ := (O5.sl 0 rfl).shape
                subst hB
                obtain ⟨lR, qR, -⟩ := O5.cells 2 rfl
                have r0 := qR 0 (by simp)
                simp only [List.getElem?_cons_succ, List.getElem?_cons_zero] at r0
                obtain ⟨g', o', he, hg, d0, d1, d2, d3, d4, d5⟩ := hrow.out w4 O5.p
                try dsimp only at d0 d1 d2 d3 d4 d5
                cases he
                haveI : InW gg w4 := ⟨hg⟩
                haveI : InW R w4 := ⟨lR⟩
                clear qR hrow
                have OP := Lib.hid (fun (wq : World) (p : w4.Plus wq) => (by
                  obtain ⟨e, rfl⟩ := p
                  exact O5.plus e : Own W wq _))
                clear O5
                replace hlti := Lib.hid hlti
                go_region_law ((go_loud (refine step_append_O (by rfl) _ _ 22 22 (by rfl) 35 Try.t35 (.agg #[.int .i64 0, .int .i64 0, .int .i64 0, .slice none 0 0, .slice none 0 0, .slice none 0 0]) 6 96 (by kernel_rfl) (by kernel_rfl) (by kernel_rfl) (by kernel_rfl) (by kernel_rfl) rfl (by rfl) (OP.out _ (by (repeat (first | exact Plus.refl _ | apply Plus.plus | apply Plus.alloc | apply Plus.drew)))) (xv := .slice (some ⟨_, 0, none⟩) 1 1) (by rfl) (src_ms _ _ m a (by simp [go_sem]) (by simp [go_sem]) (by simp [go_sem]) (by simp [go_sem]) (by simp [go_sem]) (by simp [go_sem])) (by unfold maxLen; first | omega | (simp only; omega)) (by first | omega | (simp only; omega)) ?_); intro A6 c6 w6 O6; obtain ⟨lR6, qR6, fR6⟩ := O6.cells 2 rfl; have r6 := qR6 0 (by simp); have fr6 := fR6 0; simp only [List.getElem?_cons_succ, List.getElem?_cons_zero] at r6; haveI : InW R w6 := ⟨lR6⟩; clear qR6 fR6))
                all_goals
                  have O7 := O6.setCellAt 2 0 (.slice A6 (T0.length + 1) c6) rfl (by simp)
                  simp only [List.set_cons_succ, List.set_cons_zero] at O7
                  rw [hrC_snoc] at O7
                  replace O7 := Lib.hid ((O7.pull 2 rfl).pull 2 rfl)
                  clear O6
                  go_wp2_with fail
                  go_roundw
                  case rel => exact ⟨0 + 1, by omega, by go_num, _, _, _, _, _, _, hI2.out, hS1.out, by have h7 := O7.out; rw [saidL]; simp only [List.length_append, List.length_cons, List.length_nil]; exact h7⟩
                  case measure => simp [intOf]
              · replace hS2 := Lib.hid (hS2.out hE0)
                clear hS1
                have hE0b : (E == 0) = false := by simpa using hE0
                go_upto_region 16 with (go_at_call 5; (with_reducible refine kE.out.mono ?_); rintro e w' ⟨rfl, e0, rfl⟩)
                clear kE d0 d1 d2 d3 d4 d5
                go_wp2_with (go_at_call 6; (with_reducible refine (kS.out _).mono ?_); rintro e w4 ⟨rfl, O4⟩)
                go_roundw
                case rel => exact ⟨0 + 1, by omega, by go_num, _, _, _, _, _, _, hI2.out, hS2.out, O4⟩
                case measure => simp [intOf]
            · have hE : encV m = .tuple #[.string ⟨#[]⟩, .int .i64 1] := by unfold encV; rw [if_neg hok]
              rw [hE] at kE
              have O' := Lib.hid O
              replace hI := Lib.hid (hI.mono (m0 := (i + min (0 + 1) 1)) (m1 := (i + (0 + 1 - 1))) (by omega) (by omega))
              replace hS := Lib.hid hS
              clear O hE hok hx hxm
              subst hA
              go_wp2_with (go_at_call 5; (with_reducible refine kE.out.mono ?_); rintro e w' ⟨rfl, e0, rfl⟩)
              go_roundw
              case rel => exact ⟨0 + 1, by omega, by go_num, _, _, _, _, _, _, hI.out, hS.out, O'.out.plus e0⟩
              case measure => simp [intOf]
          · have hlti : (na : Int) ≤ (i : Int) := by omega
            have O' := Lib.hid O
            replace hI := Lib.hid (hI.mono (m0 := (i + min (0 + 1) 1)) (m1 := (i + (0 + 1 - 1))) (by omega) (by omega))
            replace hS := Lib.hid hS
            clear O
            go_wp2_with fail
            go_roundw
            case rel => exact ⟨0 + 1, by omega, by go_num, _, _, _, _, _, _, hI.out, hS.out, O'.out⟩
            case measure => simp [intOf]

        · skip
          -- node 1 says its i-th message, if there is one; O : Own W wz (pairA :: saidL), hI : SayI S M0 M1 g, hS : Said W S T0 T1
          by_cases hlt : i < nb
          · have hlti : ¬ (nb : Int) ≤ (i : Int) := by omega
            have hlti2 : (i : Int) < (nb : Int) := by omega
            obtain ⟨x, hx⟩ : ∃ x, xb[i]? = some x := ⟨_, List.getElem?_eq_getElem (by rw [← hnb.out]; exact hlt)⟩
            have hxm := mb.out x (List.mem_of_getElem? hx)
            obtain ⟨m, a⟩ := x
            dsimp only at hxm
            have hrow := Lib.hid (fun (wq : World) (p : W.Plus wq) => ms_row (hb.out.plus p) i hlt (m, a) hx)
            obtain ⟨gg, oo, hA, hg, d0, d1, d2, d3, d4, d5⟩ := hrow.out wz O.p
            dsimp only at d0 d1 d2 d3 d4 d5
            haveI : InW gg wz := ⟨hg⟩
            have kE := Lib.hid (encode_any m a wz (hxm.plus O.p))
            by_cases hok : okM m = true
            · have hE : encV m = .tuple #[.string (mT m), .int .i64 0] := by unfold encV; rw [if_pos hok]; rfl
              rw [hE] at kE
              have kS := fun (e : Ext) => (by
                have k0 := say1 (O.plus e) (mT m) (by have := (hI.gi.bnd true).w; omega)
                rw [World.size_plus_eq] at k0
                exact k0 : Calls Try.prog 6 #[Ses.chV N1, .slice (some ⟨wz.heap.size + e.objs.size, 0, none⟩) 1 1] ((wz.plus e).alloc (.cells #[.string (mT m)] 9)) (OwnTo W (.int .i64 (Ses.sayE (g.c true) [mT m])) (pairA P N0 N1 (g.say true (mT m)).pr :: saidL R v0 v1 T0 T1)))
              have hI2 := hI.say true m hok (by simp; omega)
              simp only [Bool.false_eq_true, if_false, if_true] at hI2
              replace hI2 := hI2.mono (m0 := (i + min (1 + 1) 1)) (m1 := (i + (1 + 1 - 1))) (by omega) (by omega)
              obtain ⟨lP, p0, p1, -⟩ := pairB O
              haveI : InW P wz := ⟨lP⟩
              have hS1 := Lib.hid (fun (he : Ses.sayE (g.c true) [mT m] = 0) => hS.say1 m a hxm he)
              have hS2 := Lib.hid (fun (he : ¬ Ses.sayE (g.c true) [mT m] = 0) => hS.no true m he)
              have hTl : T0.length ≤ 12 ∧ T1.length ≤ 12 := by
                have h1 := congrArg List.length hS.e0
                have h2 := congrArg List.length hS.e1
                rw [List.length_map] at h1 h2
                have h3 := hI.gi.few false
                have h4 := hI.gi.few true
                omega
              generalize hsm : mT m = sm at *
              replace hsm := Lib.hid hsm
              replace kS := Lib.hid kS
              replace hI2 := Lib.hid hI2
              replace hx := Lib.hid hx
              replace hxm := Lib.hid hxm
              have O' := Lib.hid O
              clear O hE hok hI hS
              obtain ⟨E, hEE⟩ : ∃ E, E = Ses.sayE (g.c true) [sm] := ⟨_, rfl⟩
              rw [← hEE] at kS hS1 hS2
              replace hEE := Lib.hid hEE
              subst hA
              by_cases hE0 : E = 0
              · subst hE0
                replace hS1 := Lib.hid (hS1.out rfl)
                clear hS2
                go_upto_region 16 with (go_at_call 5; (with_reducible refine kE.out.mono ?_); rintro e w' ⟨rfl, e0, rfl⟩)
                clear kE d0 d1 d2 d3 d4 d5
                go_upto_region 17 with (go_at_call 6; (with_reducible refine (kS.out _).mono ?_); rintro e w4 ⟨rfl, O4⟩)
                clear kS p0 p1 lP O' hg
                have O5 := O4.pull 3 rfl
                clear O4
                dsimp only [saidL, List.eraseIdx] at O5
                obtain ⟨B, cB, hB⟩ := (O5.sl 0 rfl).shape
                subst hB
                obtain ⟨lR, qR, -⟩ := O5.cells 2 rfl
                have r0 := qR 1 (by simp)
                simp only [List.getElem?_cons_succ, List.getElem?_cons_zero] at r0
                obtain ⟨g', o', he, hg, d0, d1, d2, d3, d4, d5⟩ := hrow.out w4 O5.p
                try dsimp only at d0 d1 d2 d3 d4 d5
                cases he
                haveI : InW gg w4 := ⟨hg⟩
                haveI : InW R w4 := ⟨lR⟩
                clear qR hrow
                have OP := Lib.hid (fun (wq : World) (p : w4.Plus wq) => (by
                  obtain ⟨e, rfl⟩ := p
                  exact O5.plus e : Own W wq _))
                clear O5
                replace hlti := Lib.hid hlti
                go_region_law ((go_loud (refine step_append_O (by rfl) _ _ 22 22 (by rfl) 35 Try.t35 (.agg #[.int .i64 0, .int .i64 0, .int .i64 0, .slice none 0 0, .slice none 0 0, .slice none 0 0]) 6 96 (by kernel_rfl) (by kernel_rfl) (by kernel_rfl) (by kernel_rfl) (by kernel_rfl) rfl (by rfl) (OP.out _ (by (repeat (first | exact Plus.refl _ | apply Plus.plus | apply Plus.alloc | apply Plus.drew)))) (xv := .slice (some ⟨_, 0, none⟩) 1 1) (by rfl) (src_ms _ _ m a (by simp [go_sem]) (by simp [go_sem]) (by simp [go_sem]) (by simp [go_sem]) (by simp [go_sem]) (by simp [go_sem])) (by unfold maxLen; first | omega | (simp only; omega)) (by first | omega | (simp only; omega)) ?_); intro A6 c6 w6 O6; obtain ⟨lR6, qR6, fR6⟩ := O6.cells 2 rfl; have r6 := qR6 1 (by simp); have fr6 := fR6 1; simp only [List.getElem?_cons_succ, List.getElem?_cons_zero] at r6; haveI : InW R w6 := ⟨lR6⟩; clear qR6 fR6))
                all_goals
                  have O7 := O6.setCellAt 2 1 (.slice A6 (T1.length + 1) c6) rfl (by simp)
                  simp only [List.set_cons_succ, List.set_cons_zero] at O7
                  rw [hrC_snoc] at O7
                  replace O7 := Lib.hid (((O7.pull 3 rfl).pull 3 rfl).pull 3 rfl)
                  clear O6
                  go_wp2_with fail
                  go_roundw
                  case rel => exact ⟨1 + 1, by omega, by go_num, _, _, _, _, _, _, hI2.out, hS1.out, by have h7 := O7.out; rw [saidL]; simp only [List.length_append, List.length_cons, List.length_nil]; exact h7⟩
                  case measure => simp [intOf]
              · replace hS2 := Lib.hid (hS2.out hE0)
                clear hS1
                have hE0b : (E == 0) = false := by simpa using hE0
                go_upto_region 16 with (go_at_call 5; (with_reducible refine kE.out.mono ?_); rintro e w' ⟨rfl, e0, rfl⟩)
                clear kE d0 d1 d2 d3 d4 d5
                go_wp2_with (go_at_call 6; (with_reducible refine (kS.out _).mono ?_); rintro e w4 ⟨rfl, O4⟩)
                go_roundw
                case rel => exact ⟨1 + 1, by omega, by go_num, _, _, _, _, _, _, hI2.out, hS2.out, O4⟩
                case measure => simp [intOf]
            · have hE : encV m = .tuple #[.string ⟨#[]⟩, .int .i64 1] := by unfold encV; rw [if_neg hok]
              rw [hE] at kE
              have O' := Lib.hid O
              replace hI := Lib.hid (hI.mono (m0 := (i + min (1 + 1) 1)) (m1 := (i + (1 + 1 - 1))) (by omega) (by omega))
              replace hS := Lib.hid hS
              clear O hE hok hx hxm
              subst hA
              go_wp2_with (go_at_call 5; (with_reducible refine kE.out.mono ?_); rintro e w' ⟨rfl, e0, rfl⟩)
              go_roundw
              case rel => exact ⟨1 + 1, by omega, by go_num, _, _, _, _, _, _, hI.out, hS.out, O'.out.plus e0⟩
              case measure => simp [intOf]
          · have hlti : (nb : Int) ≤ (i : Int) := by omega
            have O' := Lib.hid O
            replace hI := Lib.hid (hI.mono (m0 := (i + min (1 + 1) 1)) (m1 := (i + (1 + 1 - 1))) (by omega) (by omega))
            replace hS := Lib.hid hS
            clear O
            go_wp2_with fail
            go_roundw
            case rel => exact ⟨1 + 1, by omega, by go_num, _, _, _, _, _, _, hI.out, hS.out, O'.out⟩
            case measure => simp [intOf]

        · have hO := Lib.hid (show SayS W P N0 N1 R (i + 1) (i + 1) wz from ⟨S, g, T0, T1, v0, v1, hI.mono (by omega) (by omega), hS, O⟩)
          clear O hI hS
          go_wp2_with fail
          go_roundw
          case rel => exact ⟨i + 1, by omega, by go_num, hO.out⟩
          case measure => simp [intOf]; omega
    · have h12i : ¬ (i : Int) < 12 := by omega
      obtain ⟨S, g, T0, T1, v0, v1, hI, hS, O⟩ := hO.out
      clear hO
      have hG : EvS W P N0 N1 R v0 v1 T0 T1 S 0 wr := ⟨g, hI.gi, by rw [hI.gn]; simp, O⟩
      clear O hI g
      replace hG := Lib.hid hG
      replace hS := Lib.hid hS
      go_upto_block 4 with fail
      go_cut [] (fun wz => EvS W P N0 N1 R v0 v1 T0 T1 S 100 wz)
      case first =>
        go_wp2_with fail
        go_loopw [15] (fun v wr => ∃ n : Nat, n ≤ nl ∧ n ≤ 100 ∧ v = .int .i64 (n : Int) ∧ EvS W P N0 N1 R v0 v1 T0 T1 S n wr) (fun v _ => 100 - (intOf v).toNat)
        case atStart => exact ⟨0, by omega, by omega, rfl, hG.out⟩
        case round =>
          clear hG
          obtain ⟨n, hn, hn2, rfl, hO⟩ := hrel
          rename World => wz
          by_cases hlt : n < nl
          · by_cases h100 : n < 100
            · have hlti : (n : Int) < (nl : Int) := by omega
              have h100i : (n : Int) < 100 := by omega
              obtain ⟨g, hI, hgl, O⟩ := hO
              have hrow := fun (wq : World) (p : W.Plus wq) => (hl.out.plus p) (by omega)
              obtain ⟨x, hx⟩ : ∃ x, x = ls.getD n idZ := ⟨_, rfl⟩
              have hrow : ∀ wq : World, W.Plus wq → ∃ gg oo, Al = some ⟨gg, oo, none⟩ ∧ gg < wq.heap.size ∧ wq.cell? ⟨gg, oo + n * 3, none⟩ = some (.int .i64 x.s) ∧ wq.cell? ⟨gg, oo + n * 3 + 1, none⟩ = some (.int .i64 x.i) ∧ wq.cell? ⟨gg, oo + n * 3 + 2, none⟩ = some (.int .i64 x.g) := fun wq p => by
                obtain ⟨gg, oo, hA, hg, hc⟩ := hrow wq p
                have c0 := hc n 0 hlt (by omega)
                have c1 := hc n 1 hlt (by omega)
                have c2 := hc n 2 hlt (by omega)
                unfold rowFI at c0 c1 c2
                rw [← hx] at c0 c1 c2
                exact ⟨gg, oo, hA, hg, c0, c1, c2⟩
              replace hrow := Lib.hid hrow
              clear hx
              obtain ⟨X, lP, p2, kL⟩ := lenB O
              obtain ⟨gg, oo, hA, hg, d0, d1, d2⟩ := hrow.out wz O.p
              haveI : InW P wz := ⟨lP⟩
              haveI : InW gg wz := ⟨hg⟩
              have kM := Lib.hid (fun (wq : World) => mod_any wq x.s 6 (by omega))
              have hk6 := modV_lt x.s 6 (by omega)
              obtain ⟨k6, hk6e⟩ : ∃ k, k = modV x.s 6 := ⟨_, rfl⟩
              rw [← hk6e] at kM hk6
              have kM : Hid (∀ wq : World, Calls Try.prog 8 #[.int .i64 x.s, .int .i64 6] wq (fun e w' => e = .returned (.int .i64 (k6 : Int)) ∧ wq.Plus w')) := kM
              subst hA
              clear hk6e
              replace kL := Lib.hid kL
              have O' := Lib.hid O
              clear O
              obtain ⟨nn, hnn⟩ : ∃ nn, nn = g.gn.length := ⟨_, rfl⟩
              rw [← hnn] at kL hgl
              replace hnn := Lib.hid hnn
              go_upto_region 24 with (first | (go_at_call 7; (with_reducible refine kL.out.mono ?_); rintro e w' ⟨rfl, e0, rfl⟩) | (go_at_call 8; (with_reducible refine (kM.out _).mono ?_); rintro e w' ⟨rfl, e1, rfl⟩))
              have O := (O'.out.plus e0).plus e1
              clear O' kL kM lP p2 d0 d1 d2 hg
              generalize hw3 : (wz.plus e0).plus e1 = w3 at *
              clear hw3
              obtain ⟨gg', oo', he, hg, d0, d1, d2⟩ := hrow.out w3 O.p
              cases he
              haveI : InW gg w3 := ⟨hg⟩
              clear hrow d0
              have hgn : g.gn.length ≤ 800 := by rw [← hnn.out]; omega
              by_cases hA : k6 < 2
              · have hAi : (k6 : Int) < 2 := by omega
                have kM := fun (wq : World) => mod_any wq x.i 2 (by omega)
                have hj := modV_lt x.i 2 (by omega)
                obtain ⟨j, hje⟩ : ∃ k, k = modV x.i 2 := ⟨_, rfl⟩
                rw [← hje] at kM hj
                clear hje
                have kM : Hid (∀ wq : World, Calls Try.prog 8 #[.int .i64 x.i, .int .i64 2] wq (fun e w' => e = .returned (.int .i64 (j : Int)) ∧ wq.Plus w')) := Lib.hid kM
                obtain ⟨b, hb⟩ : ∃ b : Bool, (j : Int) = if b then 1 else 0 := by
                  rcases (by omega : j = 0 ∨ j = 1) with rfl | rfl
                  · exact ⟨false, rfl⟩
                  · exact ⟨true, rfl⟩
                have kP := fun (e : Ext) => postB (O.plus e) hI b (by omega)
                rw [← hb] at kP
                replace kP := Lib.hid kP
                have hE := Lib.hid (hI.post b)
                have hln : (g.post b).gn.length ≤ 8 * (n + 1) := by
                  have := postsL_le (g.c b)
                  simp only [St.post, List.length_append, List.length_map]
                  rw [← hnn.out]
                  omega
                replace hln := Lib.hid hln
                replace hb := Lib.hid hb
                replace O := Lib.hid O
                go_wp2_with (first | (go_at_call 8; (with_reducible refine (kM.out _).mono ?_); rintro e w' ⟨rfl, e0, rfl⟩) | (go_at_call 9; (with_reducible refine (kP.out _).mono ?_); rintro e w4 ⟨rfl, O4⟩))
                go_roundw
                case rel => exact ⟨n + 1, hlt, h100, by go_num, g.post b, hE.out, hln.out, O4⟩
                case measure => simp [intOf]; omega
              · have hAi : ¬ (k6 : Int) < 2 := by omega
                by_cases hB : nn = 0
                · have hBb : ((nn : Int) == 0) = true := by simpa using hB
                  have hE := Lib.hid (show EvS W P N0 N1 R v0 v1 T0 T1 S (n + 1) w3 from ⟨g, hI, by rw [← hnn.out]; omega, O⟩)
                  clear O
                  replace hB := Lib.hid hB
                  go_wp2_with fail
                  go_roundw
                  case rel => exact ⟨n + 1, hlt, h100, by go_num, hE.out⟩
                  case measure => simp [intOf]; omega
                · have hBi : ¬ (nn : Int) = 0 := by omega
                  have hBb : ((nn : Int) == 0) = false := by simpa using hBi
                  have kM := Lib.hid (fun (wq : World) => mod_any wq x.g nn (by omega))
                  have hj := modV_lt x.g nn (by omega)
                  generalize modV x.g nn = j at *
                  obtain ⟨y, hy⟩ : ∃ y, g.gn[j]? = some y := ⟨_, List.getElem?_eq_getElem (by rw [← hnn.out]; exact hj)⟩
                  have hym := List.mem_of_getElem? hy
                  have hln : (g.gn.eraseIdx j).length ≤ 8 * (n + 1) := by rw [List.length_eraseIdx, ← hnn.out]; split <;> omega
                  have hsub : ∀ z ∈ g.gn.eraseIdx j, z ∈ g.gn := fun z hz => List.mem_of_mem_eraseIdx hz
                  by_cases hC : k6 < 4
                  · have hCi : (k6 : Int) < 4 := by omega
                    have kC := Lib.hid (fun (e : Ext) => comesB (O.plus e) hI j y hy (by omega))
                    have hE := Lib.hid (hI.come hym _ hsub)
                    replace hln := Lib.hid hln
                    replace hsub := Lib.hid hsub
                    replace hy := Lib.hid hy
                    replace hym := Lib.hid hym
                    replace O := Lib.hid O
                    go_wp2_with (first | (go_at_call 8; (with_reducible refine (kM.out _).mono ?_); rintro e w' ⟨rfl, e0, rfl⟩) | (go_at_call 10; (with_reducible refine (kC.out _).mono ?_); rintro e w4 ⟨rfl, O4⟩))
                    go_roundw
                    case rel => exact ⟨n + 1, hlt, h100, by go_num, _, hE.out, hln.out, O4⟩
                    case measure => simp [intOf]; omega
                  · have hCi : ¬ (k6 : Int) < 4 := by omega
                    obtain ⟨X, lP, p2, kT, kD⟩ := takeB O
                    haveI : InW P w3 := ⟨lP⟩
                    replace kT := kT j y hy (by omega)
                    replace kD := kD j y hy (by omega)
                    replace hsub := Lib.hid hsub
                    replace hy := Lib.hid hy
                    by_cases hD : k6 = 4
                    · have hDb : ((k6 : Int) == 4) = true := by simp [hD]
                      replace hD := Lib.hid hD
                      have hE := Lib.hid (hI.cut _ hsub.out)
                      replace kT := Lib.hid kT
                      replace hln := Lib.hid hln
                      replace hym := Lib.hid hym
                      replace O := Lib.hid O
                      clear kD
                      go_upto_region 30 with fail
                      refine wp_region_grow_tail 11 (by kernel_rfl) (by kernel_rfl) ?_
                      simp only [List.take_succ_cons, List.take_zero, List.drop_succ_cons, List.drop_zero]
                      repeat (go_big_quiet_step ((go_at_call 8; exact Calls.plus_of (kM.out _))))
                      refine wpQuiet_nil ?_
                      intro ex
                      go_wp2_with (go_at_call 11; (with_reducible refine (kT.out _).mono ?_); rintro e w4 ⟨⟨v, rfl⟩, O4⟩)
                      go_roundw
                      case rel => exact ⟨n + 1, hlt, h100, by go_num, _, hE.out, hln.out, O4⟩
                      case measure => simp [intOf]; omega
                    · have hDi : ¬ (k6 : Int) = 4 := by omega
                      have hDb : ((k6 : Int) == 4) = false := by simpa using hDi
                      have hE := Lib.hid (hI.cut (g.gn ++ [y]) (fun z hz => (List.mem_append.1 hz).elim id (fun h => by rw [List.mem_singleton.1 h]; exact hym)))
                      have hl2 : (g.gn ++ [y]).length ≤ 8 * (n + 1) := by have := hnn.out; rw [List.length_append, List.length_singleton]; omega
                      replace kD := Lib.hid kD
                      replace hln := Lib.hid hl2
                      replace hym := Lib.hid hym
                      replace O := Lib.hid O
                      clear kT
                      go_upto_region 23 with fail
                      refine wp_region_grow_tail 11 (by kernel_rfl) (by kernel_rfl) ?_
                      simp only [List.take_succ_cons, List.take_zero, List.drop_succ_cons, List.drop_zero]
                      repeat (go_big_quiet_step ((go_at_call 8; exact Calls.plus_of (kM.out _))))
                      refine wpQuiet_nil ?_
                      intro ex
                      go_wp2_with (go_at_call 12; (with_reducible refine (kD.out _).mono ?_); rintro e w4 ⟨rfl, O4⟩)
                      go_roundw
                      case rel => exact ⟨n + 1, hlt, h100, by go_num, _, hE.out, hln.out, O4⟩
                      case measure => simp [intOf]; omega
            · have h100i : ¬ (n : Int) < 100 := by omega
              have hlti : (n : Int) < (nl : Int) := by omega
              have hE := Lib.hid (hO.mono hn2)
              clear hO
              go_wp2_with fail
              go_meet
              exact hE.out
          · have hlti : ¬ (n : Int) < (nl : Int) := by omega
            have hE := Lib.hid (hO.mono hn2)
            clear hO
            go_wp2_with fail
            go_meet
            exact hE.out

      clear hG
      obtain ⟨g, hI, hgl, O⟩ := hcut
      have kR := Lib.hid (rest_O O ⟨hI, by omega, fun h => absurd rfl h⟩)
      clear O hI hgl
      go_upto_region 32 with (go_at_call 13; (with_reducible refine kR.out.mono ?_); rintro e w5 ⟨rfl, g2, hD, O⟩)
      clear kR g
      replace hS := hS.out
      have e0 : g2.h true = T0.map Prod.fst := (hD.heard true).trans hS.e0
      have e1 : g2.h false = T1.map Prod.fst := (hD.heard false).trans hS.e1
      have k0 : ∀ x ∈ T0, okM x.1 = true := fun x hx => hD.gi.okH true x.1 (by rw [e0]; exact List.mem_map.2 ⟨x, hx, rfl⟩)
      have k1 : ∀ x ∈ T1, okM x.1 = true := fun x hx => hD.gi.okH false x.1 (by rw [e1]; exact List.mem_map.2 ⟨x, hx, rfl⟩)
      have hp5 := O.p
      have b0 : T0.length ≤ 20 := by have := hD.gi.hfew true; rwa [e0, List.length_map] at this
      have b1 : T1.length ≤ 20 := by have := hD.gi.hfew false; rwa [e1, List.length_map] at this
      have m0 : ∀ x ∈ T0, MRows w5 x.1 x.2 := fun x hx => (hS.m0 x hx).plus hp5
      have m1 : ∀ x ∈ T1, MRows w5 x.1 x.2 := fun x hx => (hS.m1 x hx).plus hp5
      obtain ⟨⟨X, u0, u1⟩, O2⟩ := O.ex
      simp only [pairL, saidL, List.cons_append, List.nil_append] at O2
      obtain ⟨HA0, hc0, H0, hu0, hH0, hr0, hm0⟩ := heard_rows (O2.pull 4 rfl)
      obtain ⟨HA1, hc1, H1, hu1, hH1, hr1, hm1⟩ := heard_rows (O2.pull 5 rfl)
      obtain ⟨SA0, sc0, hv0, hs0⟩ := sl_msRows (O2.sl 7 rfl)
      obtain ⟨SA1, sc1, hv1, hs1⟩ := sl_msRows (O2.sl 8 rfl)
      obtain ⟨lP, qP, -⟩ := O2.cells 0 rfl
      obtain ⟨lR, qR, -⟩ := O2.cells 6 rfl
      have p3 := qP 3 (by simp)
      have p4 := qP 4 (by simp)
      have p5 := qP 5 (by simp)
      have r0 := qR 0 (by simp)
      have r1 := qR 1 (by simp)
      simp only [List.getElem?_cons_succ, List.getElem?_cons_zero] at p3 p4 p5 r0 r1
      clear qP qR O2 O hS hD
      rw [show g2.pr.bad = false from rfl] at p5
      rw [show g2.pr.h0 = g2.h false from rfl, e1] at hu0 hH0 hr0
      rw [show g2.pr.h1 = g2.h true from rfl, e0] at hu1 hH1 hr1
      rw [List.length_map] at hu0 hr0 hu1 hr1
      clear e0 e1 g2
      subst hu0 hu1 hv0 hv1
      obtain ⟨n0, hn0⟩ : ∃ n, n = T0.length := ⟨_, rfl⟩
      obtain ⟨n1, hn1⟩ : ∃ n, n = T1.length := ⟨_, rfl⟩
      rw [← hn0] at p4 r0 hs0 hr1 b0
      rw [← hn1] at p3 r1 hs1 hr0 b1
      have hF : ∀ wq, w5.Plus wq → P < wq.heap.size ∧ R < wq.heap.size ∧ wq.cell? ⟨P, 3, none⟩ = some (.slice HA0 n1 hc0) ∧ wq.cell? ⟨P, 4, none⟩ = some (.slice HA1 n0 hc1) ∧ wq.cell? ⟨P, 5, none⟩ = some (.bool false) ∧ wq.cell? ⟨R, 0, none⟩ = some (.slice SA0 n0 sc0) ∧ wq.cell? ⟨R, 1, none⟩ = some (.slice SA1 n1 sc1) := fun wq p => by
        have hc := Chg.of_Plus p (fun _ => False)
        exact ⟨Nat.lt_of_lt_of_le lP hc.size, Nat.lt_of_lt_of_le lR hc.size, (hc.cell lP (fun h => h)).trans p3, (hc.cell lP (fun h => h)).trans p4, (hc.cell lP (fun h => h)).trans p5, (hc.cell lR (fun h => h)).trans r0, (hc.cell lR (fun h => h)).trans r1⟩
      clear p3 p4 p5 r0 r1 lP lR
      replace hF := Lib.hid hF
      have kA := Lib.hid (same_rows H0 T1 hH0 k1 hm0 m1 hn1 hr0 hs1)
      have kB := Lib.hid (same_rows H1 T0 hH1 k0 hm1 m0 hn0 hr1 hs0)
      clear k0 k1 m0 m1 hm0 hm1 hr0 hr1 hs0 hs1 hH0 hH1
      replace hn0 := Lib.hid hn0
      replace hn1 := Lib.hid hn1
      replace hp5 := Lib.hid hp5
      go_wp2_with fail
      go_loopw [18] (fun v wz => ∃ j : Nat, j ≤ 2 ∧ v = .int .i64 (j : Int) ∧ w5.Plus wz) (fun v _ => 2 - (intOf v).toNat)
      case atStart => exact ⟨0, by omega, rfl, Plus.refl _⟩
      case round =>
        obtain ⟨j, hj, rfl, hp⟩ := hrel
        rename World => wz
        rcases (by omega : j = 0 ∨ j = 1 ∨ j = 2) with rfl | rfl | rfl
        · skip
          -- node 0 has heard just what the other one said
          obtain ⟨lP, lR, p3, p4, -, r0, r1⟩ := hF.out wz hp
          haveI : InW P wz := ⟨lP⟩
          haveI : InW R wz := ⟨lR⟩
          replace hp := Lib.hid hp
          go_upto_region 35 with fail
          refine wp_region_grow (by kernel_rfl) (by kernel_rfl) ?_
          repeat (go_big_quiet_step (fail))
          refine wpQuiet_nil ?_
          intro ex
          go_upto_region 37 with fail
          clear p3 p4 r0 r1 lP lR
          go_wp2_with fail
          go_loopw [19] (fun v wq => ∃ i : Nat, i ≤ n1 ∧ v = .int .i64 (i : Int) ∧ w5.Plus wq) (fun v _ => n1 - (intOf v).toNat)
          case atStart => exact ⟨0, by omega, rfl, Plus.plus hp.out ex⟩
          case round =>
            clear hp
            obtain ⟨i, hi, rfl, hp⟩ := hrel
            rename World => wq
            obtain ⟨lP, lR, p3, p4, -, r0, r1⟩ := hF.out wq hp
            haveI : InW P wq := ⟨lP⟩
            haveI : InW R wq := ⟨lR⟩
            by_cases hlt : i < n1
            · have hlti : (i : Int) < (n1 : Int) := by omega
              obtain ⟨m, a, a', h1, h2, h3⟩ := kA.out i hlt
              obtain ⟨gg, oo, hA, hg, c0, c1, c2, c3, c4, c5⟩ := h1 wq hp
              obtain ⟨gh, oh, hB, hg2, d0, d1, d2, d3, d4, d5⟩ := h2 wq hp
              clear h1 h2
              haveI : InW gg wq := ⟨hg⟩
              haveI : InW gh wq := ⟨hg2⟩
              have kS := Lib.hid (fun (e : Ext) => h3 (wq.plus e) (Plus.plus hp e))
              clear h3
              have hp' := Lib.hid hp
              clear hp
              subst hA hB
              go_upto_region 40 with fail
              refine wp_region_grow (by kernel_rfl) (by kernel_rfl) ?_
              repeat (go_big_quiet_step ((go_at_call 14; exact Calls.plus_of (kS.out _))))
              refine wpQuiet_nil ?_
              intro ex
              go_wp2_with fail
              go_roundw
              case rel => exact ⟨i + 1, hlt, by go_num, Plus.plus hp'.out ex⟩
              case measure => simp [intOf]; omega
            · have hlti : ¬ (i : Int) < (n1 : Int) := by omega
              have hp' := Lib.hid hp
              clear hp
              go_wp2_with fail
              go_roundw
              case rel => exact ⟨0 + 1, by omega, by go_num, hp'.out⟩
              case measure => simp [intOf]

        · skip
          -- node 1 has heard just what the other one said
          obtain ⟨lP, lR, p3, p4, -, r0, r1⟩ := hF.out wz hp
          haveI : InW P wz := ⟨lP⟩
          haveI : InW R wz := ⟨lR⟩
          replace hp := Lib.hid hp
          go_upto_region 35 with fail
          refine wp_region_grow (by kernel_rfl) (by kernel_rfl) ?_
          repeat (go_big_quiet_step (fail))
          refine wpQuiet_nil ?_
          intro ex
          go_upto_region 37 with fail
          clear p3 p4 r0 r1 lP lR
          go_wp2_with fail
          go_loopw [19] (fun v wq => ∃ i : Nat, i ≤ n0 ∧ v = .int .i64 (i : Int) ∧ w5.Plus wq) (fun v _ => n0 - (intOf v).toNat)
          case atStart => exact ⟨0, by omega, rfl, Plus.plus hp.out ex⟩
          case round =>
            clear hp
            obtain ⟨i, hi, rfl, hp⟩ := hrel
            rename World => wq
            obtain ⟨lP, lR, p3, p4, -, r0, r1⟩ := hF.out wq hp
            haveI : InW P wq := ⟨lP⟩
            haveI : InW R wq := ⟨lR⟩
            by_cases hlt : i < n0
            · have hlti : (i : Int) < (n0 : Int) := by omega
              obtain ⟨m, a, a', h1, h2, h3⟩ := kB.out i hlt
              obtain ⟨gg, oo, hA, hg, c0, c1, c2, c3, c4, c5⟩ := h1 wq hp
              obtain ⟨gh, oh, hB, hg2, d0, d1, d2, d3, d4, d5⟩ := h2 wq hp
              clear h1 h2
              haveI : InW gg wq := ⟨hg⟩
              haveI : InW gh wq := ⟨hg2⟩
              have kS := Lib.hid (fun (e : Ext) => h3 (wq.plus e) (Plus.plus hp e))
              clear h3
              have hp' := Lib.hid hp
              clear hp
              subst hA hB
              go_upto_region 40 with fail
              refine wp_region_grow (by kernel_rfl) (by kernel_rfl) ?_
              repeat (go_big_quiet_step ((go_at_call 14; exact Calls.plus_of (kS.out _))))
              refine wpQuiet_nil ?_
              intro ex
              go_wp2_with fail
              go_roundw
              case rel => exact ⟨i + 1, hlt, by go_num, Plus.plus hp'.out ex⟩
              case measure => simp [intOf]; omega
            · have hlti : ¬ (i : Int) < (n0 : Int) := by omega
              have hp' := Lib.hid hp
              clear hp
              go_wp2_with fail
              go_roundw
              case rel => exact ⟨1 + 1, by omega, by go_num, hp'.out⟩
              case measure => simp [intOf]

        · obtain ⟨lP, lR, p3, p4, p5, r0, r1⟩ := hF.out wz hp
          haveI : InW P wz := ⟨lP⟩
          clear p3 p4 r0 r1
          replace hp := Lib.hid hp
          go_wp2_with fail
          go_ret
          exact ⟨rfl, Plus.trans hp5.out hp.out⟩
end Go.Proofs.Ythmfmpkkbgapoaa
