/- session: the law's calm: walk. -/
import Derived.Test.YtpmebmbibajcoaaOnceS
import Derived.Deep.CutBlock
set_option linter.unusedSimpArgs false
set_option linter.unusedVariables false
namespace Go.Proofs.Ytpmebmbibajcoaa
open Go.RowKit
/-- how the ends stand ahead of round n -/
structure RInv (B n T : Nat) (next : Int) (d o : Side) (old : List Old) : Prop where
  i : InvL T next d o old
  t : T + d.way.length + o.way.length ≤ B + 20 * n
  wd : d.c.wait.length ≤ 120
  wo : o.c.wait.length ≤ 120
  ph : n = 0 ∨ ∃ r a b, n = r + 1 ∧ d.c = pst a ∧ o.c = pst b ∧ d.way = postsL b ∧ o.way = postsL a ∧ Ok2 a b ∧ Ph r a b
/-- a round: behind the posts that come -/
theorem RInv.round {B n T T' : Nat} {next : Int} {d o d' o' : Side} {old old' : List Old} (h : RInv B n T next d o old) (hn : n ≤ 35) (hB : B ≤ 40000) (hT : T' ≤ 1000000) (hI : InvL T' next d' o' old') (hd : d'.c = hearL d.c d.way) (ho : o'.c = hearL o.c o.way) :
    Ok2 d'.c o'.c ∧ ((n < 35 ∧ Ph n d'.c o'.c) ∨ Q d'.c o'.c) := by
  have hokd : ∀ x ∈ d.way, okPost x = true := fun x hx => (h.i.i.d2.way x hx).ok
  have hoko : ∀ x ∈ o.way, okPost x = true := fun x hx => (h.i.i.o2.way x hx).ok
  have h2 : Ok2 d'.c o'.c := hI.ok2 hT (by rw [hd]; exact Nat.le_trans (hearL_wait hokd) h.wd) (by rw [ho]; exact Nat.le_trans (hearL_wait hoko) h.wo)
  refine ⟨h2, ?_⟩
  rcases h.ph with rfl | ⟨r, a, b, rfl, e1, e2, e3, e4, e5, e6⟩
  · exact .inl ⟨by omega, trivial⟩
  · have hr : Rnd a b d'.c o'.c := ⟨by rw [hd, e1, e3], by rw [ho, e2, e4]⟩
    rcases Nat.lt_or_ge r 34 with hlt | hge
    · exact .inl ⟨by omega, Ph.step hr e5 h2 hlt e6⟩
    · obtain rfl : r = 34 := by omega
      exact .inr (Ph.quiet hr e5 h2 e6)
theorem hearL_take (c : Ch) (ws : List Post) (i : Nat) (h : i < ws.length) : hearL c (ws.take (i + 1)) = (hear (hearL c (ws.take i)) (ws.getD i po0)).2.2 := by
  rw [List.take_succ_eq_append_getElem h, hearL_append, List.getD_eq_getElem?_getD, List.getElem?_eq_getElem h]
  rfl
theorem perm_mid {α : Type} (n w p : α) (A l : List α) : (n :: w :: (A ++ p :: l)).Perm (A ++ n :: p :: w :: l) := by
  refine List.Perm.trans ?_ List.perm_middle.symm
  refine List.Perm.cons n ?_
  refine List.Perm.trans List.perm_middle.symm ?_
  exact List.Perm.append_left A (List.Perm.swap _ _ _)
theorem way_clear {W w : World} {P k Bd Bo : Nat} {d o : Side} {next : Int} {old : List Old} {Nd : Nat} {a1 a2 a3 : Ad} {y : Nat × Ad × Ad × Ad} {z : Ad} {xs : List Ad} {l : List Asn} (h : Own W w (pairL P k Bd Bo d o next old (Nd, a1, a2, a3) y z xs l)) :
    Own W (w.setCell ⟨Bd, 3, none⟩ (.slice none 0 0)) (pairB P k Bd Bo (unway d) o next old :: slA 5 (slV a3 d.way.length) d.way.length (postCs d.way) :: l) := by
  have h2 := h.setCellAt 8 3 (.slice none 0 0) rfl (by simp)
  have h3 := h2.pull 12 rfl
  have h4 := (Own.add h3 (Chg.refl _ _) (Q := slA 5 (.slice none 0 0) 0 []) (A := fun _ => False) ⟨fun k => by simp [Value.ownBlock], Sl.nil _ _⟩ (fun _ h => h.elim))
  have h5 := h4.perm (perm_mid (slA 5 (.slice none 0 0) 0 []) (slA 5 (slV a3 d.way.length) d.way.length (postCs d.way)) (cellsA P (two k (chV Bd) (chV Bo) ++ [.int .i64 next, slV z old.length]))
    (oldsF old (slV z old.length) xs ++ (sideF Bo o y ++ [cellsA Bd [chV Nd, slV a1 d.said.length, slV a2 d.heard.length, .slice none 0 0], chanA Nd d.c, slA 1 (slV a1 d.said.length) d.said.length (strs d.said), slA 1 (slV a2 d.heard.length) d.heard.length (strs d.heard)])) l)
  exact pairB_shut (x := (Nd, a1, a2, (none, 0))) (d := unway d) h5
theorem Own.ins {W w : World} {x : Asn} (A B : List Asn) (h : Own W w (x :: (A ++ B))) : Own W w (A ++ x :: B) := h.perm List.perm_middle.symm
theorem posts_both {W w : World} {P Bd Bo : Nat} {cd co : Ch} {d o : Side} {next : Int} {old : List Old} {Nd No : Nat} {a1 a2 a3 b1 b2 b3 : Ad} {z : Ad} {xs : List Ad} {l : List Asn} {A B : Option Addr} {ca cb : Nat} {pa pb : List Post}
    (h : Own W w (chanA No co :: slA 5 (.slice B pb.length cb) pb.length (postCs pb) :: (chanA Nd cd :: slA 5 (.slice A pa.length ca) pa.length (postCs pa) :: (pairL P 0 Bd Bo d o next old (Nd, a1, a2, a3) (No, b1, b2, b3) z xs l).eraseIdx 9).eraseIdx 6)) :
    Own W ((w.setCell ⟨Bo, 3, none⟩ (.slice A pa.length ca)).setCell ⟨Bd, 3, none⟩ (.slice B pb.length cb)) (pairB P 0 Bd Bo ⟨cd, d.said, d.heard, pb⟩ ⟨co, o.said, o.heard, pa⟩ next old :: l) := by
  have h1 := h.setCellAt 7 3 (.slice A pa.length ca) rfl (by simp)
  have h2 := h1.setCellAt 11 3 (.slice B pb.length cb) rfl (by simp)
  have h3 := (h2.pull 10 rfl).drop
  have h4 := (h3.pull 13 rfl).drop
  have e0 := oldsF old (slV z old.length) xs
  have f1 := Own.ins ([slA 5 (.slice B pb.length cb) pb.length (postCs pb), chanA Nd cd, slA 5 (.slice A pa.length ca) pa.length (postCs pa)] ++ oldsF old (slV z old.length) xs ++ [cellsA Bo [chV No, slV b1 o.said.length, slV b2 o.heard.length, .slice A pa.length ca]])
    ([slA 1 (slV b1 o.said.length) o.said.length (strs o.said), slA 1 (slV b2 o.heard.length) o.heard.length (strs o.heard), cellsA Bd [chV Nd, slV a1 d.said.length, slV a2 d.heard.length, .slice B pb.length cb], slA 1 (slV a1 d.said.length) d.said.length (strs d.said), slA 1 (slV a2 d.heard.length) d.heard.length (strs d.heard), cellsA P (two 0 (chV Bd) (chV Bo) ++ [.int .i64 next, slV z old.length])] ++ l) h4
  have f2 := Own.ins ([chanA Nd cd, slA 5 (.slice A pa.length ca) pa.length (postCs pa)] ++ oldsF old (slV z old.length) xs ++ [cellsA Bo [chV No, slV b1 o.said.length, slV b2 o.heard.length, .slice A pa.length ca], chanA No co,
    slA 1 (slV b1 o.said.length) o.said.length (strs o.said), slA 1 (slV b2 o.heard.length) o.heard.length (strs o.heard), cellsA Bd [chV Nd, slV a1 d.said.length, slV a2 d.heard.length, .slice B pb.length cb], slA 1 (slV a1 d.said.length) d.said.length (strs d.said), slA 1 (slV a2 d.heard.length) d.heard.length (strs d.heard)])
    (cellsA P (two 0 (chV Bd) (chV Bo) ++ [.int .i64 next, slV z old.length]) :: l) f1
  have f3 := Own.ins ([slA 5 (.slice A pa.length ca) pa.length (postCs pa)] ++ oldsF old (slV z old.length) xs ++ [cellsA Bo [chV No, slV b1 o.said.length, slV b2 o.heard.length, .slice A pa.length ca], chanA No co,
    slA 1 (slV b1 o.said.length) o.said.length (strs o.said), slA 1 (slV b2 o.heard.length) o.heard.length (strs o.heard), cellsA Bd [chV Nd, slV a1 d.said.length, slV a2 d.heard.length, .slice B pb.length cb]])
    (slA 1 (slV a1 d.said.length) d.said.length (strs d.said) :: slA 1 (slV a2 d.heard.length) d.heard.length (strs d.heard) :: slA 5 (.slice B pb.length cb) pb.length (postCs pb) :: cellsA P (two 0 (chV Bd) (chV Bo) ++ [.int .i64 next, slV z old.length]) :: l) f2
  have f4 := Own.ins (oldsF old (slV z old.length) xs ++ [cellsA Bo [chV No, slV b1 o.said.length, slV b2 o.heard.length, .slice A pa.length ca], chanA No co,
    slA 1 (slV b1 o.said.length) o.said.length (strs o.said), slA 1 (slV b2 o.heard.length) o.heard.length (strs o.heard)])
    (cellsA Bd [chV Nd, slV a1 d.said.length, slV a2 d.heard.length, .slice B pb.length cb] :: chanA Nd cd :: slA 1 (slV a1 d.said.length) d.said.length (strs d.said) :: slA 1 (slV a2 d.heard.length) d.heard.length (strs d.heard) :: slA 5 (.slice B pb.length cb) pb.length (postCs pb) :: cellsA P (two 0 (chV Bd) (chV Bo) ++ [.int .i64 next, slV z old.length]) :: l) f3
  exact pairB_shut (x := (Nd, a1, a2, (B, cb))) (y := (No, b1, b2, (A, ca))) (d := ⟨cd, d.said, d.heard, pb⟩) (o := ⟨co, o.said, o.heard, pa⟩) f4
/-- what the round's posts leave as it is -/
structure Fc (P Bd Bo Nd No : Nat) (vB vO : Value) (w : World) : Prop where
  lP : P < w.heap.size
  lB : Bd < w.heap.size
  lo : Bo < w.heap.size
  p0 : w.cell? ⟨P, 0, none⟩ = some (chV Bd)
  p1 : w.cell? ⟨P, 1, none⟩ = some (chV Bo)
  b0 : w.cell? ⟨Bd, 0, none⟩ = some (chV Nd)
  o0 : w.cell? ⟨Bo, 0, none⟩ = some (chV No)
  b3 : w.frozen? ⟨Bd, 3, none⟩ = false
  o3 : w.frozen? ⟨Bo, 3, none⟩ = false
  bb : w.cell? ⟨Bd, 3, none⟩ = some vB
  oo : w.cell? ⟨Bo, 3, none⟩ = some vO
theorem Fc.of {W w : World} {P Bd Bo Nd No : Nat} {l : List Asn} {cP : List Value} {u1 u2 v1 v2 vB vO : Value} (iP iB io : Nat) (O : Own W w l) (hP : l[iP]? = some (cellsA P (chV Bd :: chV Bo :: cP))) (hB : l[iB]? = some (cellsA Bd [chV Nd, u1, u2, vB])) (ho : l[io]? = some (cellsA Bo [chV No, v1, v2, vO])) : Fc P Bd Bo Nd No vB vO w := by
  obtain ⟨lP, qP, fP⟩ := O.cells iP hP
  obtain ⟨lB, qB, fB⟩ := O.cells iB hB
  obtain ⟨lo, qo, fo⟩ := O.cells io ho
  exact ⟨lP, lB, lo, qP 0 (by simp), qP 1 (by simp), qB 0 (by simp), qo 0 (by simp), fB 3, fo 3, qB 3 (by simp), qo 3 (by simp)⟩
def CalmO (W : World) (P Bd Bo B : Nat) (next : Int) (l : List Asn) (e : Ending) (w' : World) : Prop := e = .returned (.bool true) ∧ ∃ T d o old, InvL T next d o old ∧ T ≤ B + 800 ∧ d.way = [] ∧ o.way = [] ∧ K d.c o.c ∧ d.c.wait = [] ∧ o.c.wait = [] ∧ Own W w' (pairB P 0 Bd Bo d o next old :: l)
/-- the round's ends, as far as they have heard -/
def KInv (W : World) (P Bd Bo T : Nat) (next : Int) (d o : Side) (old : List Old) (l : List Asn) (v : Value) (w : World) : Prop :=
  (v = .int .i64 0 ∧ Own W w (pairB P 0 Bd Bo d o next old :: l)) ∨
  (v = .int .i64 1 ∧ ∃ d1 old1, InvL (T + d.way.length) next d1 o old1 ∧ d1.way = [] ∧ d1.c = hearL d.c d.way ∧ Own W w (pairB P 0 Bd Bo d1 o next old1 :: l)) ∨
  (v = .int .i64 2 ∧ ∃ d1 o1 old1, InvL (T + d.way.length + o.way.length) next d1 o1 old1 ∧ d1.way = [] ∧ o1.way = [] ∧ d1.c = hearL d.c d.way ∧ o1.c = hearL o.c o.way ∧ Own W w (pairB P 0 Bd Bo d1 o1 next old1 :: l))
theorem kinv_1 {W w : World} {P Bd Bo T : Nat} {next : Int} {d o d' : Side} {old old' : List Old} {l : List Asn} (hI : InvL (T + d.way.length) next d' o old') (hc : d'.c = hearL d.c d.way) (O : Own W w (pairB P 0 Bd Bo (unway d') o next old' :: l)) : KInv W P Bd Bo T next d o old l (.int .i64 1) w :=
  .inr (.inl ⟨rfl, unway d', old', hI.cut [] (fun x hx => by cases hx) (Nat.zero_le _), rfl, hc, O⟩)
theorem kinv_2 {W w : World} {P Bd Bo T : Nat} {next : Int} {d o d1 o' : Side} {old old' : List Old} {l : List Asn} (hI : InvL (T + d.way.length + o.way.length) next o' d1 old') (hw : d1.way = []) (hc1 : d1.c = hearL d.c d.way) (hc : o'.c = hearL o.c o.way) (O : Own W w (pairB P 1 Bo Bd (unway o') d1 next old' :: l)) : KInv W P Bd Bo T next d o old l (.int .i64 2) w :=
  .inr (.inr ⟨rfl, d1, unway o', old', (hI.cut [] (fun x hx => by cases hx) (Nat.zero_le _)).swap, hw, rfl, hc1, hc, pairB_swap' O⟩)
set_option maxRecDepth 100000 in
set_option maxHeartbeats 4000000 in
theorem calm_any {W wx : World} {P Bd Bo T B : Nat} {d o : Side} {next : Int} {old : List Old} {l : List Asn} (h : Own W wx (pairB P 0 Bd Bo d o next old :: l)) (hR : RInv B 0 T next d o old) (hB : B ≤ 40000) :
    Calls Try.prog 24 #[chV P] wx (CalmO W P Bd Bo B next l) := by
  go_enter Try.func24, Try.ntmps24
  go_wp2_with fail
  go_loopw [3] (fun v wr => ∃ (n T : Nat) (d o : Side) (old : List Old), v = .int .i64 n ∧ n ≤ 35 ∧ RInv B n T next d o old ∧ Own W wr (pairB P 0 Bd Bo d o next old :: l)) (fun v _ => 60 - (intOf v).toNat)
  case atStart => exact ⟨0, T, d, o, old, rfl, by omega, hR, h⟩
  case round =>
    clear h hR d o old T
    obtain ⟨n, T, d, o, old, rfl, hn, hR, OX⟩ := hrel
    have hn60 : (n : Int) < 60 := by omega
    go_wp2_with fail
    go_loopw [4] (fun v wz => KInv W P Bd Bo T next d o old l v wz) (fun v _ => 2 - (intOf v).toNat)
    case atStart => exact .inl ⟨rfl, OX⟩
    case round =>
      clear OX
      rcases hrel with ⟨rfl, OK1⟩ | ⟨rfl, d1, old1, hI1, hw1, hc1, OK0⟩ | ⟨rfl, d1, o1, old1, hI1, hw1, hwo1, hc1, hco1, OK1⟩
      · skip
        -- the end 0 hears all that is under way to it: d its side, o the other one, T so far
        have hbnd : T + d.way.length ≤ 45000 := by have := hR.t; omega
        obtain ⟨x, y, z, xs, O⟩ := pairB_open OK1
        obtain ⟨Nd, ⟨A1, c1⟩, ⟨A2, c2⟩, ⟨A3, c3⟩⟩ := x
        obtain ⟨lP, qP, fP⟩ := O.cells 13 rfl
        obtain ⟨lB, qB, fB⟩ := O.cells 8 rfl
        have p0 := qP 0 (by simp [two])
        simp [two] at p0
        have b3 := qB 3 (by simp)
        simp only [List.getElem?_cons_succ, List.getElem?_cons_zero, slV] at b3
        have fb3 := fB 3
        haveI : InW P wr := ⟨lP⟩
        haveI : InW Bd wr := ⟨lB⟩
        have OV := way_clear O
        clear qP fP qB fB
        replace O := Lib.hid trivial
        replace OK1 := Lib.hid trivial
        go_upto_region 9 with fail
        generalize wr.setCell ⟨Bd, 3, none⟩ (.slice none 0 0) = wy at *
        clear p0 b3 fb3 lP lB
        have hI0 := hR.i
        go_wp2_with fail
        go_loopw [6] (fun v wz => ∃ (i : Nat) (d' : Side) (old' : List Old), i ≤ d.way.length ∧ v = .int .i64 i ∧ InvL (T + i) next d' o old' ∧ d'.way = d.way ∧ d'.c = hearL d.c (d.way.take i) ∧ Own W wz (pairB P 0 Bd Bo (unway d') o next old' :: slA 5 (slV (A3, c3) d.way.length) d.way.length (postCs d.way) :: l)) (fun v _ => d.way.length - (intOf v).toNat)
        case atStart => exact ⟨0, d, old, Nat.zero_le _, rfl, hI0, rfl, rfl, OV⟩
        case round =>
          clear OV hI0
          obtain ⟨i, d', old', hi, rfl, hI', hw', hc', OY⟩ := hrel
          by_cases hlt : i < d.way.length
          · obtain ⟨g, oo, he3, hg, q0, q1, q2, q3, q4⟩ := rows_post (Own.rows 1 OY rfl rfl) i hlt
            dsimp only at he3
            subst he3
            haveI : InW g wr := ⟨hg⟩
            have hmem : d.way.getD i po0 ∈ d'.way := by
              rw [hw', List.getD_eq_getElem?_getD, List.getElem?_eq_getElem hlt]
              exact List.getElem_mem _
            have hst := hearL_take d.c d.way i hlt
            rw [← hc'] at hst
            generalize d.way.getD i po0 = pp at *
            have kH := Lib.hid (heard_0 OY hI' (by omega) pp hmem)
            replace OY := Lib.hid OY
            replace hst := Lib.hid hst
            replace hI' := Lib.hid hI'
            replace hc' := Lib.hid hc'
            replace hw' := Lib.hid hw'
            go_wp2_with (go_at_call 36; (with_reducible refine kH.out.mono ?_); rintro e w4 ⟨rfl, d4, old4, hI4, hw4, hc4, O4⟩)
            go_roundw
            case rel => exact ⟨i + 1, d4, old4, hlt, by go_num, hI4, hw4.trans hw'.out, hc4.trans hst.out.symm, O4⟩
            case measure => simp [intOf]; omega
          · obtain rfl : i = d.way.length := by omega
            rw [List.take_length] at hc'
            have hEnd := Lib.hid hI'
            have OE := Lib.hid OY.rot1.drop
            replace hc' := Lib.hid hc'
            replace hI' := Lib.hid trivial
            replace OY := Lib.hid trivial
            go_wp2_with fail
            go_roundw
            case rel => exact kinv_1 hEnd.out hc'.out OE.out
            case measure => simp [intOf]

      · have OK1 := pairB_swap OK0
        clear OK0
        -- the end 1 hears all that is under way to it: o its side, d1 the other one, (T+d.way.length) so far
        have hbnd : (T+d.way.length) + o.way.length ≤ 45000 := by have := hR.t; omega
        obtain ⟨x, y, z, xs, O⟩ := pairB_open OK1
        obtain ⟨Nd, ⟨A1, c1⟩, ⟨A2, c2⟩, ⟨A3, c3⟩⟩ := x
        obtain ⟨lP, qP, fP⟩ := O.cells 13 rfl
        obtain ⟨lB, qB, fB⟩ := O.cells 8 rfl
        have p0 := qP 1 (by simp [two])
        simp [two] at p0
        have b3 := qB 3 (by simp)
        simp only [List.getElem?_cons_succ, List.getElem?_cons_zero, slV] at b3
        have fb3 := fB 3
        haveI : InW P wr := ⟨lP⟩
        haveI : InW Bo wr := ⟨lB⟩
        have OV := way_clear O
        clear qP fP qB fB
        replace O := Lib.hid trivial
        replace OK1 := Lib.hid trivial
        go_upto_region 9 with fail
        generalize wr.setCell ⟨Bo, 3, none⟩ (.slice none 0 0) = wy at *
        clear p0 b3 fb3 lP lB
        have hI0 := hI1.swap
        go_wp2_with fail
        go_loopw [6] (fun v wz => ∃ (i : Nat) (d' : Side) (old' : List Old), i ≤ o.way.length ∧ v = .int .i64 i ∧ InvL ((T+d.way.length) + i) next d' d1 old' ∧ d'.way = o.way ∧ d'.c = hearL o.c (o.way.take i) ∧ Own W wz (pairB P 1 Bo Bd (unway d') d1 next old' :: slA 5 (slV (A3, c3) o.way.length) o.way.length (postCs o.way) :: l)) (fun v _ => o.way.length - (intOf v).toNat)
        case atStart => exact ⟨0, o, old1, Nat.zero_le _, rfl, hI0, rfl, rfl, OV⟩
        case round =>
          clear OV hI0
          obtain ⟨i, d', old', hi, rfl, hI', hw', hc', OY⟩ := hrel
          by_cases hlt : i < o.way.length
          · obtain ⟨g, oo, he3, hg, q0, q1, q2, q3, q4⟩ := rows_post (Own.rows 1 OY rfl rfl) i hlt
            dsimp only at he3
            subst he3
            haveI : InW g wr := ⟨hg⟩
            have hmem : o.way.getD i po0 ∈ d'.way := by
              rw [hw', List.getD_eq_getElem?_getD, List.getElem?_eq_getElem hlt]
              exact List.getElem_mem _
            have hst := hearL_take o.c o.way i hlt
            rw [← hc'] at hst
            generalize o.way.getD i po0 = pp at *
            have kH := Lib.hid (heard_1 OY hI' (by omega) pp hmem)
            replace OY := Lib.hid OY
            replace hst := Lib.hid hst
            replace hI' := Lib.hid hI'
            replace hc' := Lib.hid hc'
            replace hw' := Lib.hid hw'
            go_wp2_with (go_at_call 36; (with_reducible refine kH.out.mono ?_); rintro e w4 ⟨rfl, d4, old4, hI4, hw4, hc4, O4⟩)
            go_roundw
            case rel => exact ⟨i + 1, d4, old4, hlt, by go_num, hI4, hw4.trans hw'.out, hc4.trans hst.out.symm, O4⟩
            case measure => simp [intOf]; omega
          · obtain rfl : i = o.way.length := by omega
            rw [List.take_length] at hc'
            have hEnd := Lib.hid hI'
            have OE := Lib.hid OY.rot1.drop
            replace hc' := Lib.hid hc'
            replace hI' := Lib.hid trivial
            replace OY := Lib.hid trivial
            go_wp2_with fail
            go_roundw
            case rel => exact kinv_2 hEnd.out hw1 hc1 hc'.out OE.out
            case measure => simp [intOf]

      · have hTb : T + d.way.length + o.way.length ≤ 45000 := by have := hR.t; omega
        obtain ⟨h2, hph⟩ := hR.round hn hB (by omega) hI1 hc1 hco1
        have hRt := hR.t
        clear hR hc1 hco1
        have hb1 := hI1.bounds
        have hb2 := hI1.swap.bounds
        obtain ⟨x, y, z, xs, O⟩ := pairB_open OK1
        obtain ⟨Nd, ⟨A1, c1⟩, ⟨A2, c2⟩, ⟨A3, c3⟩⟩ := x
        obtain ⟨No, ⟨C1, g1⟩, ⟨C2, g2⟩, ⟨C3, g3⟩⟩ := y
        obtain ⟨lP, lB, lo, p0, p1, b0, o0, fb3, fo3, bb3, oo3⟩ := Fc.of 13 8 3 O rfl rfl rfl
        haveI : InW P wr := ⟨lP⟩
        haveI : InW Bd wr := ⟨lB⟩
        haveI : InW Bo wr := ⟨lo⟩
        have hBB : ¬ Bd = Bo := Own.ne 3 (O.pull 8 rfl) rfl
        have hBB' : ¬ Bo = Bd := fun h => hBB h.symm
        have kP := posts_O ((O.pull 9 rfl).drew) ⟨by have := hb1.d1; omega, by have := hb1.d1; omega⟩ (by have := hb1.d3; omega)
        have hIn := (hI1.posts (by omega)).swap.posts (by omega)
        have hp8 := postsL_len8 d1.c
        have hp9 := postsL_len8 o1.c
        have kQ := fun (wz : World) (A : Option Addr) (cap : Nat) (O4 : Own W wz (chanA Nd { d1.c with owes := false } :: slA 5 (.slice A (postsL d1.c).length cap) (postsL d1.c).length (postCs (postsL d1.c)) :: (pairL P 0 Bd Bo d1 o1 next old1 (Nd, (A1, c1), (A2, c2), (A3, c3)) (No, (C1, g1), (C2, g2), (C3, g3)) z xs l).eraseIdx 9)) =>
          (And.intro (Fc.of (P := P) (Bd := Bd) (Bo := Bo) (Nd := Nd) (No := No) 14 10 5 O4 rfl rfl rfl) (posts_O (O4.pull 6 rfl) ⟨by have := hb2.d1; omega, by have := hb2.d1; omega⟩ (by have := hb2.d3; omega)))
        have kX := Lib.hid (fun (wz : World) (A B : Option Addr) (cap cap' : Nat) (O5 : Own W wz (chanA No { o1.c with owes := false } :: slA 5 (.slice B (postsL o1.c).length cap') (postsL o1.c).length (postCs (postsL o1.c)) :: (chanA Nd { d1.c with owes := false } :: slA 5 (.slice A (postsL d1.c).length cap) (postsL d1.c).length (postCs (postsL d1.c)) :: (pairL P 0 Bd Bo d1 o1 next old1 (Nd, (A1, c1), (A2, c2), (A3, c3)) (No, (C1, g1), (C2, g2), (C3, g3)) z xs l).eraseIdx 9).eraseIdx 6)) =>
          (And.intro (Fc.of (P := P) (Bd := Bd) (Bo := Bo) (Nd := Nd) (No := No) 15 11 7 O5 rfl rfl rfl) (posts_both O5)))
        obtain ⟨pa, hpa⟩ : ∃ pa, pa = postsL d1.c := ⟨_, rfl⟩
        obtain ⟨pb, hpb⟩ : ∃ pb, pb = postsL o1.c := ⟨_, rfl⟩
        rw [← hpa] at kP kQ kX hp8 hIn
        rw [← hpb] at kQ kX hp9
        have hIn2 : InvL (T + d.way.length + o.way.length + 1 + 1) next ⟨{ d1.c with owes := false }, d1.said, d1.heard, pb⟩ ⟨{ o1.c with owes := false }, o1.said, o1.heard, pa⟩ old1 := by
          have := hIn.swap
          rw [hw1, hwo1, List.nil_append, List.nil_append] at this
          rw [hpb]
          exact this
        replace kP := Lib.hid kP
        replace kQ := Lib.hid kQ
        replace hpa := Lib.hid hpa
        replace hpb := Lib.hid hpb
        clear hIn
        replace hIn2 := Lib.hid hIn2
        replace hI1 := Lib.hid hI1
        replace hb1 := Lib.hid trivial
        replace hb2 := Lib.hid trivial
        replace OK1 := Lib.hid trivial
        replace O := Lib.hid trivial
        replace hph := Lib.hid hph
        replace h2 := Lib.hid h2
        go_upto_region 14 with fail
        go_region_held3 (fun w' => w'.cell? ⟨P, 0, none⟩ = some (chV Bd) ∧ w'.cell? ⟨P, 1, none⟩ = some (chV Bo) ∧ w'.cell? ⟨Bd, 0, none⟩ = some (chV Nd) ∧ w'.cell? ⟨Bo, 0, none⟩ = some (chV No)) (simp [go_sem, *]) ((go_at_call 14; first | ((with_reducible refine ((kQ.out _ _ _ O4).2).mono ?_); rintro e w5 ⟨B5, cap5, rfl, O5⟩; obtain ⟨⟨lP5, lB5, lo5, p05, p15, b05, o05, fb35, fo35, bb35, oo35⟩, OF⟩ := kX.out _ _ _ _ _ O5; haveI : InW P w5 := ⟨lP5⟩; haveI : InW Bd w5 := ⟨lB5⟩; haveI : InW Bo w5 := ⟨lo5⟩) | ((with_reducible refine (kP.out).mono ?_); rintro e w4 ⟨A4, cap4, rfl, O4⟩; obtain ⟨lP4, lB4, lo4, p04, p14, b04, o04, fb34, fo34, bb34, oo34⟩ := (kQ.out _ _ _ O4).1; haveI : InW P w4 := ⟨lP4⟩; haveI : InW Bd w4 := ⟨lB4⟩; haveI : InW Bo w4 := ⟨lo4⟩)))
        clear O4 p04 p14 b04 o04 fb34 fo34 bb34 oo34 p0 p1 b0 o0 fb3 fo3 bb3 oo3 kP kQ kX O5
        replace OF := Lib.hid OF
        by_cases h0 : pa.length + pb.length = 0
        · obtain rfl : pa = [] := List.eq_nil_of_length_eq_zero (by omega)
          obtain rfl : pb = [] := List.eq_nil_of_length_eq_zero (by omega)
          obtain ⟨hK, hwa, hwb⟩ := Q.done ⟨hpa.out.symm, hpb.out.symm⟩ h2.out
          have hK := Lib.hid hK
          have hwa := Lib.hid hwa
          have hwb := Lib.hid hwb
          have hTB : T + d.way.length + o.way.length + 1 + 1 ≤ B + 800 := by omega
          replace hTB := Lib.hid hTB
          go_wp2_with fail
          go_ret
          exact ⟨rfl, _, _, _, _, hIn2.out, hTB.out, rfl, rfl, hK.out, hwa.out, hwb.out, OF.out⟩
        · have hph' : n < 35 ∧ Ph n d1.c o1.c := by
            rcases hph.out with h | h
            · exact h
            · refine absurd ?_ h0
              rw [hpa.out, hpb.out, h.1, h.2]
              rfl
          have h0i : ¬ (pa.length : Int) + pb.length = 0 := by omega
          have h0b : ((pa.length : Int) + pb.length == 0) = false := by rw [beq_eq_false_iff_ne]; exact h0i
          have hRn : RInv B (n + 1) (T + d.way.length + o.way.length + 1 + 1) next ⟨{ d1.c with owes := false }, d1.said, d1.heard, pb⟩ ⟨{ o1.c with owes := false }, o1.said, o1.heard, pa⟩ old1 :=
            ⟨hIn2.out, by simp only; omega, h2.out.a.w, h2.out.b.w, .inr ⟨n, d1.c, o1.c, rfl, rfl, rfl, hpb.out, hpa.out, h2.out, hph'.2⟩⟩
          have hn' : n + 1 ≤ 35 := hph'.1
          clear hph'
          replace hRn := Lib.hid hRn
          have h64 : wrap64 ((pa.length : Int) + pb.length) = (pa.length : Int) + pb.length := w64_id (by omega) (by omega)
          replace h0i := Lib.hid h0i
          replace h0 := Lib.hid h0
          go_wp2_with fail
          go_roundw
          case rel => clear h64 h0b; exact ⟨n + 1, _, _, _, _, by go_num, hn', hRn.out, OF.out⟩
          case measure => clear h64 h0b; simp [intOf]; omega
end Go.Proofs.Ytpmebmbibajcoaa
