/- SessionPlays: walk. -/
import Derived.Test.YtpmebmbibajcoaaSesK
import Derived.Deep.CutBlock
set_option linter.unusedSimpArgs false
set_option linter.unusedVariables false
namespace Go.Proofs.Ytpmebmbibajcoaa
open Go.RowKit
/-- how far numbers have come behind k deeds -/
structure Bd (m : Int) (c : Ch) (k : Nat) : Prop where
  mine : c.mine = m
  f1 : 1 ≤ c.first
  l0 : 0 ≤ c.last
  l1 : c.last ≤ k
  y0 : 0 ≤ c.yours
  fw : c.first + c.wait.length ≤ 1 + 20 * k
  w1 : c.wait.length ≤ 1024
theorem Bd.say {m : Int} {c : Ch} {k : Nat} (h : Bd m c k) (xs : List ByteArray) (hx : xs.length ≤ 20) : Bd m (sayC c xs) (k + 1) := by
  obtain ⟨h1, h2, h3, h4, h5, h6, h7⟩ := h
  unfold sayC
  split
  · rename_i hE
    have hl : ¬ 1024 < c.wait.length + xs.length := by
      unfold sayE at hE
      split at hE
      · cases hE
      · split at hE
        · cases hE
        · assumption
    exact ⟨h1, h2, h3, by simp only; omega, h5, by simp only [List.length_append]; omega, by simp only [List.length_append]; omega⟩
  · exact ⟨h1, h2, h3, by omega, h5, by omega, h7⟩
theorem Bd.ch4 {m : Int} {c : Ch} {k : Nat} (h : Bd m c k) (p : Post) (hp : okPost p = true) : Bd m (ch4 c p) k ∧ Bd m (ch2 c p) k := by
  obtain ⟨h1, h2, h3, h4, h5, h6, h7⟩ := h
  obtain ⟨b1, b2, b3, b4⟩ := okPost_bounds hp
  have e1 : Bd m (ch1 c p) k := by
    unfold ch1
    split
    · exact ⟨h1, by simp, by simp, by simp only; omega, by simp only; omega, by simp only [List.length_nil]; omega, by simp⟩
    · exact ⟨h1, h2, h3, h4, h5, h6, h7⟩
  have e2 : Bd m (ch2 c p) k := ⟨e1.1, e1.2, e1.3, e1.4, e1.5, e1.6, e1.7⟩
  have e3 : Bd m (ch3 c p) k := ⟨e2.1, e2.2, e2.3, e2.4, e2.5, e2.6, e2.7⟩
  refine ⟨?_, e2⟩
  obtain ⟨g1, g2, g3, g4, g5, g6, g7⟩ := e3
  unfold Go.Proofs.Ytpmebmbibajcoaa.ch4
  have hN : hearN (ch3 c p) p ≤ (ch3 c p).wait.length := by unfold hearN; omega
  generalize ch3 c p = d at *
  generalize hearN d p = n at *
  split
  · exact ⟨g1, by simp only; omega, g3, g4, g5, by simp only [List.length_drop]; omega, by simp only [List.length_drop]; omega⟩
  · exact ⟨g1, g2, g3, g4, g5, g6, g7⟩
theorem Bd.up {m : Int} {c : Ch} {k : Nat} (h : Bd m c k) : Bd m c (k + 1) := by
  obtain ⟨h1, h2, h3, h4, h5, h6, h7⟩ := h
  exact ⟨h1, h2, h3, by omega, h5, by omega, h7⟩
theorem Bd.hear {m : Int} {c : Ch} {k : Nat} (h : Bd m c k) (p : Post) : Bd m (hear c p).2.2 (k + 1) := by
  unfold Go.Proofs.Ytpmebmbibajcoaa.hear
  split
  · exact h.up
  · rename_i hk
    obtain ⟨e4, e2⟩ := h.ch4 p (by simpa using hk)
    split
    · exact h.up
    · split
      · exact e2.up
      · split
        · obtain ⟨g1, g2, g3, g4, g5, g6, g7⟩ := e4
          exact ⟨g1, g2, by simp only; omega, by simp only; omega, g5, by simp only; omega, g7⟩
        · exact e4.up
theorem Bd.owes {m : Int} {c : Ch} {k : Nat} (h : Bd m c k) : Bd m { c with owes := false } (k + 1) := by
  obtain ⟨h1, h2, h3, h4, h5, h6, h7⟩ := h
  exact ⟨h1, h2, h3, by simp only; omega, h5, by simp only; omega, h7⟩
theorem postsL_len (c : Ch) : (postsL c).length ≤ 1000000 := by
  unfold postsL
  split
  · rw [List.length_append]
    split <;> split <;> simp
  · rw [textPs_length]
    unfold postK
    split <;> omega
theorem Own.deeds {W wx : World} {l : List Asn} {A : Option Addr} {cap n : Nat} {ds : List Deed} (i : Nat) (o : Own W wx l) (hi : l[i]? = some (slA 7 (.slice A n cap) n (deedsCs ds))) (hn : n = ds.length) : RowsAt wx A 7 n (deedRow ds) :=
  (o.sl i hi).rows rfl _ fun i j h1 h2 => by
    rw [deedsCs_get ds i j (by omega) h2]
    unfold deedRow
    have h7 : (ds.getD i de0).cs.length = 7 := rfl
    generalize (ds.getD i de0).cs = l at *
    rw [List.getElem?_eq_getElem (by omega), List.getD_eq_getElem?_getD, List.getElem?_eq_getElem (by omega)]
    rfl
set_option maxRecDepth 100000 in
set_option maxHeartbeats 4000000 in
theorem plays_any (mine : Int) (ds : List Deed) (A : Option Addr) (cp : Nat) (w : World) (hn : ds.length ≤ 140737488351232) (hcp : ds.length ≤ cp ∧ cp ≤ 140737488351232) (hr : RowsAt w A 7 ds.length (deedRow ds)) (hd : ∀ d ∈ ds, d.ln ≤ d.lc ∧ d.lc ≤ 140737488351232 ∧ ∃ xs, d.ln = xs.length ∧ RowsAt w d.la 1 d.ln (strAt xs)) :
    Calls Try.prog 6 #[.int .i64 mine, .slice A ds.length cp] w fun e w' => e = .returned (.bool true) ∧ w.Plus w' := by
  by_cases hm : 1 ≤ mine ∧ mine ≤ 1099511627776
  · have hN := Lib.hid (fun w' (p : w.Plus w') => new_O (Own.nil p) mine hm)
    have hm1 : ¬ mine < 1 := by omega
    have hm2 : ¬ 1099511627776 < mine := by omega
    have hF := Lib.hid (fun (wx : World) l (h : Own w wx l) => few_any h ds A cp hn hcp hr (fun d h => ⟨(hd d h).1, (hd d h).2.1, fun h0 => by
      obtain ⟨xs, he, hx⟩ := (hd d h).2.2
      obtain ⟨b, o, hA, _⟩ := hx h0
      exact ⟨b, o, hA⟩⟩))
    have hD : ∀ d ∈ fewD ds, ∃ xs : List ByteArray, d.ln = xs.length ∧ xs.length ≤ 20 ∧ RowsAt w d.la 1 d.ln (strAt xs) := fun d hd' => by
      unfold fewD at hd'
      obtain ⟨d0, h0, rfl⟩ := List.mem_map.1 hd'
      obtain ⟨_, _, xs, he, hx⟩ := hd d0 (List.mem_of_mem_take h0)
      refine ⟨xs.take 20, ?_, by rw [List.length_take]; omega, fun hpos => ?_⟩
      · show min d0.ln 20 = _
        rw [List.length_take, he, Nat.min_comm]
      · have hpos' : 0 < min d0.ln 20 := hpos
        obtain ⟨b, o, hA, hb, hc⟩ := hx (by omega)
        refine ⟨b, o, hA, hb, fun i j hi hj => ?_⟩
        have hi' : i < min d0.ln 20 := hi
        rw [hc i j (by omega) hj]
        unfold strAt
        rw [List.getD_eq_getElem?_getD, List.getD_eq_getElem?_getD, List.getElem?_take, if_pos (by omega)]
    have hfl : (fewD ds).length ≤ 60 := by rw [fewD_len]; omega
    clear hn hcp hr hd
    replace hD := Lib.hid hD
    go_enter Try.func6, Try.ntmps6
    go_upto_region 7 with (go_at_call 11; (with_reducible refine (hN.out _ (by (repeat (first | exact Plus.refl _ | apply Plus.plus | apply Plus.alloc | apply Plus.drew)))).mono ?_); rintro e w1 ⟨N, rfl, O1⟩)
    have O2 : Own w _ (refA w1.heap.size ⟨mine, 0, 1, [], 0, false, false⟩ :: [chanA N ⟨mine, 0, 1, [], 0, false, false⟩]) := Own.mk (refF w1.heap.size ⟨mine, 0, 1, [], 0, false, false⟩) (none, 0) ((Own.add (O1.newCells [.int .i64 mine, .int .i64 0, .slice none 0 0, .int .i64 0, .int .i64 0, .bool false, .bool false] 47) (Chg.refl _ _) (Q := slA 2 (.slice none 0 0) 0 []) (A := fun _ => False) ⟨fun k => by simp [Value.ownBlock], Sl.nil _ _⟩ (fun _ h => h.elim)).rot1)
    generalize w1.heap.size = M at *
    have k2 := Lib.hid (hF.out _ _ O2)
    clear O1 O2 hN hF
    go_upto_region 8 with (go_at_call 18; (with_reducible refine k2.out.mono ?_); rintro e w2 ⟨B, cb, rfl, O3⟩)
    clear k2
    generalize fewD ds = fs at *
    have O4 := O3.perm (l' := [chanA N ⟨mine, 0, 1, [], 0, false, false⟩, refA M ⟨mine, 0, 1, [], 0, false, false⟩, slA 7 (.slice B fs.length cb) fs.length (deedsCs fs)]) ((List.Perm.swap _ _ _).trans ((List.Perm.cons _ (List.Perm.swap _ _ _)).trans (List.Perm.swap _ _ _)))
    clear O3
    go_upto_block 0 with fail
    go_cut [] (fun wz => w.Plus wz)
    case first =>
      go_wp2_with fail
      go_loopw [8] (fun i wr => ∃ (k : Nat) (c : Ch), k ≤ fs.length ∧ i = .int .i64 k ∧ Bd mine c k ∧ Own w wr [chanA N c, refA M c, slA 7 (.slice B fs.length cb) fs.length (deedsCs fs)]) (fun i _ => fs.length - (intOf i).toNat)
      case atStart => exact ⟨0, _, Nat.zero_le _, rfl, ⟨rfl, by simp, by simp, by simp, by simp, by simp, by simp⟩, O4⟩
      case round =>
        clear O4
        obtain ⟨k, c, hk, rfl, hB, OX⟩ := hrel
        by_cases hlt : k < fs.length
        · obtain ⟨g, o, rfl, hg, hDe⟩ := deed_row (Own.deeds 2 OX rfl rfl) k hlt
          haveI : InW g wr := ⟨hg⟩
          have hmem : fs.getD k de0 ∈ fs := by
            rw [List.getD_eq_getElem?_getD, List.getElem?_eq_getElem hlt]
            exact List.getElem_mem _
          obtain ⟨xs, hx1, hx2, hx3⟩ := hD.out _ hmem
          clear hmem
          have hat : ∀ (wz : World) (l : List Asn) (i : Nat), Own w wz l → l[i]? = some (slA 7 (.slice (some ⟨g, o, none⟩) fs.length cb) fs.length (deedsCs fs)) → g < wz.heap.size ∧ DeedAt wz g (o + k * 7) (fs.getD k de0) := fun wz l i O hi => by
            obtain ⟨g', o', he, hg', h⟩ := deed_row (Own.deeds i O hi rfl) k hlt
            cases he
            exact ⟨hg', h⟩
          generalize fs.getD k de0 = d at *
          obtain ⟨dk, dA, dn, dc, dp⟩ := d
          obtain ⟨c0, c1, c2, c3, c4, c5, c6⟩ := id hDe
          dsimp only at c0 c1 c2 c3 c4 c5 c6 hx1 hx3
          subst hx1
          replace hx3 := Lib.hid hx3
          replace hat := Lib.hid hat
          have hsay := Lib.hid (fun (wz : World) (O : Own w wz [chanA N c, refA M c, slA 7 (.slice (some ⟨g, o, none⟩) fs.length cb) fs.length (deedsCs fs)]) => say_O O dA dc xs (by omega) hB.w1 (hx3.out.plus O.p))
          have hrsay := Lib.hid (fun (wz : World) (O : Own w wz [refA M c, chanA N (sayC c xs), slA 7 (.slice (some ⟨g, o, none⟩) fs.length cb) fs.length (deedsCs fs)]) => refSay_O O dA dc xs (by omega) hB.w1 hx3.out ⟨hB.f1, by have := hB.fw; omega⟩)
          obtain ⟨X, hX⟩ : ∃ X, X = hear c dp := ⟨_, rfl⟩
          have hXB := hB.hear dp
          have hhear := fun (wz : World) (O : Own w wz [chanA N c, refA M c, slA 7 (.slice (some ⟨g, o, none⟩) fs.length cb) fs.length (deedsCs fs)]) => hear_O O dp ⟨hB.f1, by have := hB.fw; omega⟩ ⟨hB.l0, by have := hB.l1; omega⟩ (by have := hB.w1; omega)
          have hrhear := fun (wz : World) l (O : Own w wz (refA M c :: l)) => refHear_O O dp ⟨hB.f1, by have := hB.fw; omega⟩ ⟨hB.l0, by have := hB.l1; omega⟩ (by have := hB.w1; omega)
          rw [← hX] at hhear hrhear hXB
          clear hX
          have hpost := Lib.hid (fun (wz : World) (O : Own w wz [chanA N c, refA M c, slA 7 (.slice (some ⟨g, o, none⟩) fs.length cb) fs.length (deedsCs fs)]) => posts_O O ⟨by have := hB.f1; omega, by have := hB.fw; omega⟩ (by have := hB.w1; omega))
          have hrpost := Lib.hid (fun (wz : World) l (O : Own w wz (refA M c :: l)) => refPosts_O O hB.y0 ⟨hB.f1, by have := hB.fw; omega⟩ (by have := hB.w1; omega))
          have hpl := Lib.hid (postsL_len c)
          replace hhear := Lib.hid hhear
          replace hrhear := Lib.hid hrhear
          replace hXB := Lib.hid hXB
          replace OX := Lib.hid OX
          replace hDe := Lib.hid hDe
          go_upto_block 2 with fail
          go_cut [9] (fun t wz => t = .bool true ∧ ∃ c', Bd mine c' (k + 1) ∧ Own w wz [chanA N c', refA M c', slA 7 (.slice (some ⟨g, o, none⟩) fs.length cb) fs.length (deedsCs fs)])
          case first =>
            by_cases h0 : dk = 0
            · subst h0
              go_upto_region 16 with fail
              go_region_held3 (fun w' => w'.cell? ⟨g, o + k * 7 + 1, none⟩ = some (.slice dA xs.length dc)) (simp [go_sem, *]) (first | (go_at_call 13; (with_reducible refine (hsay.out _ OX.out.drew).mono ?_); rintro e w5 ⟨rfl, O5⟩; have c15 := (hat.out _ _ 2 O5 rfl).2.c1; haveI : InW g w5 := ⟨(hat.out _ _ 2 O5 rfl).1⟩) | (go_at_call 19; (with_reducible refine (hrsay.out _ O5.rot1).mono ?_); rintro e w6 ⟨rfl, O6⟩; have c16 := (hat.out _ _ 2 O6 rfl).2.c1; haveI : InW g w6 := ⟨(hat.out _ _ 2 O6 rfl).1⟩))
              all_goals
                go_wp2_with fail
                go_meet
                exact ⟨by simp, sayC c xs, hB.say xs hx2, O6.rot1⟩

            by_cases h1 : dk = 1
            · subst h1
              go_upto_region 16 with fail
              go_region_held3 (fun w' => w'.cell? ⟨g, o + k * 7 + 1, none⟩ = some (.slice dA xs.length dc)) (simp [go_sem, *]) (first | (go_at_call 13; (with_reducible refine (hsay.out _ OX.out.drew).mono ?_); rintro e w5 ⟨rfl, O5⟩; have c15 := (hat.out _ _ 2 O5 rfl).2.c1; haveI : InW g w5 := ⟨(hat.out _ _ 2 O5 rfl).1⟩) | (go_at_call 19; (with_reducible refine (hrsay.out _ O5.rot1).mono ?_); rintro e w6 ⟨rfl, O6⟩; have c16 := (hat.out _ _ 2 O6 rfl).2.c1; haveI : InW g w6 := ⟨(hat.out _ _ 2 O6 rfl).1⟩))
              all_goals
                go_wp2_with fail
                go_meet
                exact ⟨by simp, sayC c xs, hB.say xs hx2, O6.rot1⟩

            by_cases h2 : dk = 2
            · subst h2
              go_upto_region 21 with (go_at_call 12; (with_reducible refine (hhear.out _ OX.out).mono ?_); rintro e w5 ⟨rfl, O5⟩)
              have O5b := (Own.newHd O5 X.1)
              obtain ⟨w5b, hw5⟩ : ∃ w5b, w5b = w5.alloc (.cells #[.string X.1.text, .bool X.1.is, .bool X.1.anew] 28) := ⟨_, rfl⟩
              rw [← hw5] at O5b ⊢
              clear hw5 O5
              generalize w5.heap.size = Y at *
              obtain ⟨lg5, hD5⟩ := hat.out _ _ 3 O5b rfl
              haveI : InW g w5b := ⟨lg5⟩
              obtain ⟨e0, e1, e2, e3, e4, e5, e6⟩ := hD5
              dsimp only at e0 e1 e2 e3 e4 e5 e6
              go_upto_region 22 with (go_at_call 20; (with_reducible refine (hrhear.out _ _ O5b.rot2).mono ?_); rintro e w6 ⟨rfl, O6⟩)
              obtain ⟨lY, y0, y1, y2, _⟩ := Own.hd 1 O6 rfl
              haveI : InW Y w6 := ⟨lY⟩
              clear e0 e1 e2 e3 e4 e5 e6
              go_wp2_with fail
              go_meet
              exact ⟨by simp, X.2.2, hXB.out, (O6.rot1.drop).rot1⟩

            by_cases h3 : dk = 3
            · subst h3
              go_upto_region 21 with (go_at_call 12; (with_reducible refine (hhear.out _ OX.out).mono ?_); rintro e w5 ⟨rfl, O5⟩)
              have O5b := (Own.newHd O5 X.1)
              obtain ⟨w5b, hw5⟩ : ∃ w5b, w5b = w5.alloc (.cells #[.string X.1.text, .bool X.1.is, .bool X.1.anew] 28) := ⟨_, rfl⟩
              rw [← hw5] at O5b ⊢
              clear hw5 O5
              generalize w5.heap.size = Y at *
              obtain ⟨lg5, hD5⟩ := hat.out _ _ 3 O5b rfl
              haveI : InW g w5b := ⟨lg5⟩
              obtain ⟨e0, e1, e2, e3, e4, e5, e6⟩ := hD5
              dsimp only at e0 e1 e2 e3 e4 e5 e6
              go_upto_region 22 with (go_at_call 20; (with_reducible refine (hrhear.out _ _ O5b.rot2).mono ?_); rintro e w6 ⟨rfl, O6⟩)
              obtain ⟨lY, y0, y1, y2, _⟩ := Own.hd 1 O6 rfl
              haveI : InW Y w6 := ⟨lY⟩
              clear e0 e1 e2 e3 e4 e5 e6
              go_wp2_with fail
              go_meet
              exact ⟨by simp, X.2.2, hXB.out, (O6.rot1.drop).rot1⟩

            by_cases h4 : dk = 4
            · subst h4
              go_upto_region 21 with (go_at_call 12; (with_reducible refine (hhear.out _ OX.out).mono ?_); rintro e w5 ⟨rfl, O5⟩)
              have O5b := (Own.newHd O5 X.1)
              obtain ⟨w5b, hw5⟩ : ∃ w5b, w5b = w5.alloc (.cells #[.string X.1.text, .bool X.1.is, .bool X.1.anew] 28) := ⟨_, rfl⟩
              rw [← hw5] at O5b ⊢
              clear hw5 O5
              generalize w5.heap.size = Y at *
              obtain ⟨lg5, hD5⟩ := hat.out _ _ 3 O5b rfl
              haveI : InW g w5b := ⟨lg5⟩
              obtain ⟨e0, e1, e2, e3, e4, e5, e6⟩ := hD5
              dsimp only at e0 e1 e2 e3 e4 e5 e6
              go_upto_region 22 with (go_at_call 20; (with_reducible refine (hrhear.out _ _ O5b.rot2).mono ?_); rintro e w6 ⟨rfl, O6⟩)
              obtain ⟨lY, y0, y1, y2, _⟩ := Own.hd 1 O6 rfl
              haveI : InW Y w6 := ⟨lY⟩
              clear e0 e1 e2 e3 e4 e5 e6
              go_wp2_with fail
              go_meet
              exact ⟨by simp, X.2.2, hXB.out, (O6.rot1.drop).rot1⟩

            have b0 : (dk == 0) = false := by rw [beq_eq_false_iff_ne]; exact h0
            have b1 : (dk == 1) = false := by rw [beq_eq_false_iff_ne]; exact h1
            have b2 : (dk == 2) = false := by rw [beq_eq_false_iff_ne]; exact h2
            have b3 : (dk == 3) = false := by rw [beq_eq_false_iff_ne]; exact h3
            have b4 : (dk == 4) = false := by rw [beq_eq_false_iff_ne]; exact h4
            clear h0 h1 h2 h3 h4
            go_wp2_with (first | (go_at_call 14; (with_reducible refine (hpost.out _ OX.out).mono ?_); rintro e w5 ⟨A1, cap1, rfl, O5⟩) | (go_at_call 21; (with_reducible refine (hrpost.out _ _ O5.rot2).mono ?_); rintro e w6 ⟨A2, cap2, rfl, O6⟩; have hr1 := Own.rows 3 O6 rfl rfl; have hr2 := Own.rows 1 O6 rfl rfl) | (go_at_call 15; (with_reducible refine (same_eq (postsL c) A1 A2 cap1 cap2 _ _ hpl.out hr1 hr2).mono ?_); rintro e w7 ⟨rfl, x7, rfl⟩))
            go_meet
            exact ⟨rfl, { c with owes := false }, hB.owes, ((O6.plus x7).rot1.drop).rot2.drop.rot1⟩

          clear hsay hrsay hhear hrhear hXB hpost hrpost hpl c0 c1 c2 c3 c4 c5 c6 hDe OX hg
          obtain ⟨rfl, c', hB', O7⟩ := hcut
          have kE := Lib.hid (epochs_O O7)
          go_upto_region 24 with (go_at_call 22; (with_reducible refine kE.out.mono ?_); rintro e w' ⟨rfl, x8, rfl⟩)
          have O8 := O7.plus x8
          generalize wc.plus x8 = w8 at *
          clear O7 kE
          have kW := Lib.hid (fun x => waiting_O (O8.plus x) (by have := hB'.w1; omega))
          obtain ⟨⟨A0, cap0⟩, OO⟩ := Own.ex O8.rot1
          obtain ⟨lM, c0, c1, c2, c3, c4, c5, c6, fM⟩ := Own.refAt OO
          haveI : InW M w8 := ⟨lM⟩
          clear c3 c4 c5 c6 fM OO
          replace O8 := Lib.hid O8
          have hlw : (c'.wait.length : Int) ≤ 1024 := by have := hB'.w1; omega
          have z1 : (((c'.wait.length : Nat) : Int) != (c'.wait.length : Int)) = false := by simp
          have z2 : (c'.mine != c'.mine) = false := by simp
          have z3 : (c'.yours != c'.yours) = false := by simp
          refine wp_region_grow (by kernel_rfl) (by kernel_rfl) ?_
          repeat (go_big_quiet_step ((go_at_call 16; exact Calls.plus_of (kW.out _))))
          refine wpQuiet_nil ?_
          intro ex
          clear z1 z2 z3
          go_wp2_with fail
          go_roundw
          case rel => exact ⟨k + 1, c', hlt, by go_num, hB', O8.out.plus _⟩
          case measure => simp [intOf]; omega
        · go_wp2_with fail
          go_meet
          exact OX.p
    have hpl := hcut
    clear hcut O4
    go_wp2_with (go_at_call 17; (with_reducible refine (awake_any _).mono ?_); rintro e w' ⟨rfl, e10, rfl⟩)
    go_ret
    exact ⟨rfl, Plus.trans hpl (by (repeat (first | exact Plus.refl _ | apply Plus.plus | apply Plus.alloc | apply Plus.drew)))⟩
  · have hb : mine < 1 ∨ 1099511627776 < mine := by omega
    have hN := Lib.hid (fun w => new_bad w mine hb)
    clear hr hd
    by_cases h1 : mine < 1
    · go_enter Try.func6, Try.ntmps6
      go_wp2_with (first | (go_at_call 11; (with_reducible refine (hN.out _).mono ?_); rintro e w' ⟨rfl, x1, rfl⟩) | (go_at_call 17; (with_reducible refine (awake_any _).mono ?_); rintro e w' ⟨rfl, x2, rfl⟩))
      go_ret
      exact ⟨rfl, by (repeat (first | exact Plus.refl _ | apply Plus.plus | apply Plus.alloc | apply Plus.drew))⟩
    · have h2 : 1099511627776 < mine := by omega
      go_enter Try.func6, Try.ntmps6
      go_wp2_with (first | (go_at_call 11; (with_reducible refine (hN.out _).mono ?_); rintro e w' ⟨rfl, x1, rfl⟩) | (go_at_call 17; (with_reducible refine (awake_any _).mono ?_); rintro e w' ⟨rfl, x2, rfl⟩))
      go_ret
      exact ⟨rfl, by (repeat (first | exact Plus.refl _ | apply Plus.plus | apply Plus.alloc | apply Plus.drew))⟩
end Go.Proofs.Ytpmebmbibajcoaa
