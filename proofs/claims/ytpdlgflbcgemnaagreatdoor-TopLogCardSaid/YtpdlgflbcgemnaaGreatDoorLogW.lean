/- TopLog: walk. -/
import Derived.Test.YtpdlgflbcgemnaaGreatDoorGL
import Derived.Deep.CutBlock
set_option linter.unusedSimpArgs false
set_option linter.unusedVariables false
set_option maxRecDepth 100000
namespace Go.Proofs.YtpdlgflbcgemnaaGreatDoor
open Go.RowKit Octs
def txs (T : List (MsgR × MAt)) : List ByteArray := T.map fun x => mT x.1
theorem txs_snoc (T : List (MsgR × MAt)) (m : MsgR) (a : MAt) : txs (T ++ [(m, a)]) = txs T ++ [mT m] := by simp [txs]
theorem txs_len (T : List (MsgR × MAt)) : (txs T).length = T.length := by simp [txs]
/-- a message that may be logged -/
def Small (W : World) (x : MsgR × MAt) : Prop := okM x.1 = true ∧ MRows W x.1 x.2 ∧ (mT x.1).size ≤ 2000
theorem small_txs {W : World} {T : List (MsgR × MAt)} (h : ∀ x ∈ T, Small W x) : ∀ t ∈ txs T, t.size ≤ 65536 := fun t ht => by
  obtain ⟨x, hx, rfl⟩ := List.mem_map.1 ht
  have := (h x hx).2.2
  omega
/-- what the law has behind k messages -/
def LogI (W : World) (D G k : Nat) (v s : Value) (wz : World) : Prop := ∃ (T : List (MsgR × MAt)) (su cut n : Nat) (d : Dk), s = .int .i64 (su : Int) ∧ T.length ≤ k ∧ n ≤ k ∧ (∀ x ∈ T, Small W x) ∧ Dg (txs T) su cut d ∧ Own W wz (logA G D n :: diskA D d :: slA 6 v T.length (hrC T) :: [])
theorem LogI.mono {W : World} {D G k k' : Nat} {v s : Value} {wz : World} (h : LogI W D G k v s wz) (hk : k ≤ k') : LogI W D G k' v s wz := by
  obtain ⟨T, su, cut, n, d, h1, h2, h3, h4⟩ := h
  exact ⟨T, su, cut, n, d, h1, by omega, by omega, h4⟩
theorem LogI.plus {W : World} {D G k : Nat} {v s : Value} {wz : World} (h : LogI W D G k v s wz) (e : Ext) : LogI W D G k v s (wz.plus e) := by
  obtain ⟨T, su, cut, n, d, h1, h2, h3, h4, h5, h6⟩ := h
  exact ⟨T, su, cut, n, d, h1, h2, h3, h4, h5, h6.plus e⟩
theorem LogI.next {W : World} {D G k : Nat} {T : List (MsgR × MAt)} {m : MsgR} {a : MAt} {su cut n L c2 : Nat} {A2 : Option Addr} {d : Dk} {w : World} (hL : T.length + 1 = L) (hTk : T.length ≤ k) (hn : n ≤ k + 1) (hTm : ∀ x ∈ T, Small W x) (hs : Small W (m, a)) (hg : Dg (txs T ++ [mT m]) su cut d)
    (O : Own W w (logA G D n :: diskA D d :: slA 6 (.slice A2 L c2) L (hrC (T ++ [(m, a)])) :: [])) : LogI W D G (k + 1) (.slice A2 L c2) (.int .i64 (su : Int)) w := by
  subst hL
  refine ⟨T ++ [(m, a)], su, cut, n, d, rfl, by simp; omega, hn, fun x hx => ?_, by rw [txs_snoc]; exact hg, by rw [List.length_append]; exact O⟩
  rcases List.mem_append.1 hx with hx | hx
  · exact hTm x hx
  · rw [List.mem_singleton.1 hx]; exact hs
section
variable {W wx : World} {l : List Asn} {G D : Nat} {d : Dk}
theorem newOpen_O (h : Own W wx (diskA D ⟨0, fun _ => none, 4611686018427387904, false⟩ :: l)) (hN : Frm.Nib W) :
    Calls Tryz.prog 5 #[ptV D, .string tLog] wx (fun e w' => ∃ G A c d', e = .returned (.tuple #[ptV G, .slice A 0 c, .int .i64 0]) ∧ d'.dead = false ∧ (∀ k : Nat, k ≤ 3000 → Dg [] 0 0 { d' with room := k }) ∧ Own W w' (logA G D 0 :: diskA D d' :: l)) := by
  have ha : Frm.allOf fl0.s 0 = ([], 0) := Frm.back_whole (l := []) (by simp)
  refine (walOpen_O h hN rfl (Nat.le_refl _) fl0 (.inl ⟨rfl, rfl, rfl⟩) (by decide) [] 0 ha (Nat.zero_le _) (by simp)).mono ?_
  rintro e w' ⟨G, A, c, d', rfl, ho, O⟩
  have e1 : (⟨fl0.s.extract 0 0, (fl0.s.extract 0 0).size⟩ : Fl) = fl0 := by rfl
  refine ⟨G, A, c, d', rfl, ho.dead, fun k hk => ⟨ho.n, ⟨fl0, by rw [← e1]; exact ho.f, Lg.none⟩, fun _ => rfl, by show 0 + k ≤ 3000; omega⟩, (O.pull 1 rfl).drop⟩
end
/-- a message that is logged last -/
abbrev m7 : MsgR := ⟨11, 7, 0, [], [], []⟩
theorem m7_ok : okM m7 = true := by decide
theorem m7_size : (mT m7).size ≤ 2000 := by decide
theorem m7_enc : encV m7 = .tuple #[.string (mT m7), .int .i64 0] := by unfold encV; rw [if_pos m7_ok]; rfl
theorem enc_ok {m : MsgR} (h : okM m = true) : encV m = .tuple #[.string (mT m), .int .i64 0] := by unfold encV; rw [if_pos h]; rfl
theorem enc_no {m : MsgR} (h : ¬ okM m = true) : encV m = .tuple #[.string ⟨#[]⟩, .int .i64 1] := by unfold encV; rw [if_neg h]
theorem rows_nil (w : World) : MRows w m7 a0 := ⟨RowsAt.zero _ _ _ _, RowsAt.zero _ _ _ _, RowsAt.zero _ _ _ _⟩
/-- the last messages' cells -/
theorem take_txs (T : List (MsgR × MAt)) (j i : Nat) (x : MsgR × MAt) (hi : i < j) (hx : T[i]? = some x) : (((txs T).take j).map Value.string)[i]? = some (.string (mT x.1)) := by
  rw [List.getElem?_map, List.getElem?_take_of_lt hi, txs, List.getElem?_map, hx]
  rfl
set_option maxRecDepth 100000 in
set_option maxHeartbeats 8000000 in
theorem topLog_any (xs : List (MsgR × MAt)) (every die keep : Int) (Al : Option Addr) (cl : Nat) (W : World) (hN : Frm.Nib W) (hr : RowsAt W Al 6 xs.length (msRow xs)) (hm : ∀ x ∈ xs, MRows W x.1 x.2) (hl : xs.length ≤ 9223372036854775807) :
    Calls Tryz.prog 3 #[.slice Al xs.length cl, .int .i64 every, .int .i64 die, .int .i64 keep] W fun e w' => e = .returned (.bool true) ∧ W.Plus w' := by
  obtain ⟨nx, hnx⟩ : ∃ nx, nx = xs.length := ⟨_, rfl⟩
  rw [← hnx] at hr hl ⊢
  replace hnx := Lib.hid hnx
  replace hr := Lib.hid hr
  replace hm := Lib.hid hm
  replace hN := Lib.hid hN
  have kN := Lib.hid (diskNew_O (Own.start W))
  go_enter Tryz.func3, Tryz.ntmps3
  go_upto_region 2 with (go_at_call 4; (with_reducible refine kN.out.mono ?_); rintro e w1 ⟨D, rfl, O1⟩)
  clear kN
  have kO := Lib.hid (newOpen_O O1 hN.out)
  clear O1
  go_upto_region 5 with (go_at_call 5; (with_reducible refine kO.out.mono ?_); rintro e w2 ⟨G, A0, c0, d0, rfl, hd0, hg0, O2⟩)
  clear kO
  have hk3 := modV_lt die 3000 (by omega)
  have kM : ∀ wz : World, Calls Tryz.prog 7 #[.int .i64 die, .int .i64 3000] wz fun e w' => e = .returned (.int .i64 (modV die 3000 : Int)) ∧ wz.Plus w' := fun wz => mod_any wz die 3000 (by omega)
  have kM5 : ∀ wz : World, Calls Tryz.prog 7 #[.int .i64 every, .int .i64 5] wz fun e w' => e = .returned (.int .i64 (modV every 5 : Int)) ∧ wz.Plus w' := fun wz => mod_any wz every 5 (by omega)
  replace kM := Lib.hid kM
  replace kM5 := Lib.hid kM5
  have hk5 := modV_lt every 5 (by omega)
  generalize modV die 3000 = kd at *
  generalize modV every 5 = ke at *
  have kC := Lib.hid (fun (wz : World) (p : w2.Plus wz) => diskCut_O (O2.grown p).rot1 hd0 kd)
  clear O2
  have hwe : wrap64 (1 + (ke : Int)) = ((1 + ke : Nat) : Int) := by unfold wrap64; omega
  go_upto_region 6 with (first
    | (go_at_call 7; (with_reducible refine (kM.out _).mono ?_); rintro e w' ⟨rfl, e0, rfl⟩)
    | (go_at_call 6; (with_reducible refine (kC.out _ (by (repeat (first | exact Plus.refl _ | apply Plus.plus | apply Plus.alloc | apply Plus.drew)))).mono ?_); rintro e w3 ⟨rfl, O3⟩))
  have hg1 := hg0 kd (by omega)
  clear kM kC hg0 hd0 hk3
  generalize { d0 with room := kd } = d1 at *
  have hI0 : LogI W D G 0 (.slice none 0 0) (.int .i64 0) w3 := ⟨[], 0, 0, 0, d1, rfl, Nat.le_refl _, Nat.le_refl _, (fun x hx => by cases hx), hg1, (((Own.nilSl O3.rot1 6).pull 1 rfl).pull 2 rfl).rot1⟩
  clear O3 hg1
  replace hI0 := Lib.hid hI0
  obtain ⟨ev, hev⟩ : ∃ ev : Nat, ev = 1 + ke := ⟨_, rfl⟩
  rw [← hev] at hwe
  obtain ⟨N, hNv⟩ : ∃ N : Int, N = (ev : Int) := ⟨_, rfl⟩
  rw [← hNv] at hwe
  have hz : ¬ N = 0 := by omega
  have hz2 : (N == 0) = false := by simpa using hz
  clear hNv hev hk5
  go_upto_region 7 with (go_at_call 7; (with_reducible refine (kM5.out _).mono ?_); rintro e w' ⟨rfl, e1, rfl⟩)
  simp only [hwe]
  clear kM5 hwe
  go_upto_block 0 with fail
  go_cut [13, 14] (fun v s wz => LogI W D G 60 v s wz)
  case first =>
    go_wp2_with fail
    go_loopw [13, 14, 15, 16, 17] (fun v s i _ _ wr => ∃ k : Nat, k ≤ 60 ∧ k ≤ nx ∧ i = .int .i64 (k : Int) ∧ LogI W D G k v s wr) (fun _ _ i _ _ _ => 60 - (intOf i).toNat)
    case atStart =>
      obtain ⟨T, su, cut, n, d, h1, h2, h3, h4, h5, h6⟩ := hI0.out
      exact ⟨0, by omega, by omega, rfl, T, su, cut, n, d, h1, h2, h3, h4, h5, h6.plus e1⟩
    case round =>
      clear hI0
      obtain ⟨k, hk60, hkn, rfl, T, su, cut, n, d, rfl, hTk, hnk, hTm, hg, O⟩ := hrel
      obtain ⟨Av, cv, rfl⟩ := (O.sl 2 rfl).shape
      have kD := diskDead_O (O.pull 1 rfl)
      by_cases hgo : k < nx ∧ k < 60 ∧ d.dead = false
      · obtain ⟨h1, h2, hd⟩ := hgo
        rw [hd] at kD
        have h1i : (k : Int) < (nx : Int) := by omega
        have h2i : (k : Int) < 60 := by omega
        obtain ⟨x, hx⟩ : ∃ x, xs[k]? = some x := ⟨_, List.getElem?_eq_getElem (by rw [← hnx.out]; exact h1)⟩
        have hxm := hm.out x (List.mem_of_getElem? hx)
        obtain ⟨m, a⟩ := x
        try dsimp only at hxm
        have hrow := Lib.hid (fun (wq : World) (p : W.Plus wq) => ms_row (hr.out.plus p) k h1 (m, a) hx)
        replace hxm := Lib.hid hxm
        replace hx := Lib.hid hx
        replace kD := Lib.hid kD
        replace O := Lib.hid O
        replace hTm := Lib.hid hTm
        replace hg := Lib.hid hg
        replace hd := Lib.hid hd
        go_upto_region 12 with (go_at_call 8; (with_reducible refine kD.out.mono ?_); rintro e w' ⟨rfl, e0, rfl⟩)
        clear kD
        replace O := Lib.hid (O.out.plus e0)
        generalize wr.plus e0 = w4 at *
        obtain ⟨gg, oo, hA, hgl, d0, d1', d2, d3, d4, d5⟩ := hrow.out w4 O.out.p
        try dsimp only at d0 d1' d2 d3 d4 d5
        subst hA
        haveI : InW gg w4 := ⟨hgl⟩
        have kE := encode_any m a w4 (hxm.out.plus O.out.p)
        by_cases hok : okM m = true
        · rw [enc_ok hok] at kE
          obtain ⟨sm, hsm⟩ : ∃ sm, sm = mT m := ⟨_, rfl⟩
          rw [← hsm] at kE
          replace hsm := Lib.hid hsm
          replace kE := Lib.hid kE
          replace hok := Lib.hid hok
          by_cases hsz : sm.size ≤ 2000
          · have hszi : ¬ (2000 : Int) < (sm.size : Int) := by omega
            have hsmall : RowKit.Hid (Small W (m, a)) := Lib.hid ⟨hok.out, hxm.out, by rw [← hsm.out]; exact hsz⟩
            go_upto_region 14 with (go_at_call 9; (with_reducible refine kE.out.mono ?_); rintro e w' ⟨rfl, e1, rfl⟩)
            clear kE d0 d1' d2 d3 d4 d5 hgl
            replace O := Lib.hid (O.out.plus e1)
            generalize w4.plus e1 = w5 at *
            obtain ⟨gh, oh, hB, hgl, d0, d1', d2, d3, d4, d5⟩ := hrow.out w5 O.out.p
            try dsimp only at d0 d1' d2 d3 d4 d5
            cases hB
            haveI : InW gg w5 := ⟨hgl⟩
            have OP := Lib.hid (fun (wq : World) (p : w5.Plus wq) => (by have := (O.out.grown p).pull 2 rfl; dsimp only [List.eraseIdx] at this; exact this : Own W wq (slA 6 (.slice Av T.length cv) T.length (hrC T) :: logA G D n :: diskA D d :: [])))
            clear O
            go_upto_region 15 with (at_builtin; refine wpList_append_O rfl _ _ 22 22 rfl 39 Tryz.t39 (.agg #[.int .i64 0, .int .i64 0, .int .i64 0, .slice none 0 0, .slice none 0 0, .slice none 0 0]) 6 96 (by kernel_rfl) (by kernel_rfl) (by kernel_rfl) (by kernel_rfl) (by kernel_rfl) rfl rfl (OP.out _ (by (repeat (first | exact Plus.refl _ | apply Plus.plus | apply Plus.alloc | apply Plus.drew)))) rfl (src_ms _ _ m a (by simp [go_sem]) (by simp [go_sem]) (by simp [go_sem]) (by simp [go_sem]) (by simp [go_sem]) (by simp [go_sem])) (by unfold maxLen; omega) (by omega) ?_; intro A2 c2 w6 O6)
            clear OP d0 d1' d2 d3 d4 d5 hgl
            rw [hrC_snoc] at O6
            obtain ⟨L, hL⟩ : ∃ L, T.length + 1 = L := ⟨_, rfl⟩
            rw [hL] at O6 ⊢
            have O7 := ((O6.pull 1 rfl).pull 2 rfl).rot1
            dsimp only [List.eraseIdx] at O7
            have O8 := O7.alloc (.cells #[.string sm] 9)
            have hB0 : (w6.alloc (.cells #[.string sm] 9)).cell? ⟨w6.heap.size, 0, none⟩ = some (.string sm) := by simp [go_sem]
            have hBl : w6.heap.size < (w6.alloc (.cells #[.string sm] 9)).heap.size := by rw [World.size_alloc]; omega
            clear O6 O7
            by_cases hroom : d.room < (frT sm).size
            · have kA := Lib.hid (logDies_O O8 hN.out hd.out hg.out sm hsz (by omega) hroom _ hBl hB0)
              clear O8 hB0 hBl
              replace hroom := Lib.hid hroom
              replace hL := Lib.hid hL
              go_wp2_with (go_at_call 10; (with_reducible refine kA.out.mono ?_); rintro e w7 ⟨d7, cut7, rfl, hg7, O9⟩)
              go_roundw
              case rel => exact ⟨k + 1, by omega, by omega, by go_num, LogI.next hL.out hTk (by omega) hTm.out hsmall.out (by rw [← hsm.out]; exact hg7) O9⟩
              case measure => simp [intOf]; omega
            · have kA := Lib.hid (logLives_O O8 hN.out hd.out hg.out sm hsz (by omega) hroom _ hBl hB0)
              clear O8 hB0 hBl
              replace hroom := Lib.hid hroom
              obtain ⟨r, hrr⟩ : ∃ r : Int, (L : Int).tmod N = r := ⟨_, rfl⟩
              have hL2 : (txs T ++ [mT m]).length = L := by rw [List.length_append, txs_len, ← hL]; rfl
              replace hL := Lib.hid hL
              replace hL2 := Lib.hid hL2
              by_cases hr0 : r = 0
              · subst hr0
                have kS := Lib.hid (fun (wz : World) (d7 : Dk) (cut7 : Nat) (hd7 : d7.dead = false) (hg7 : Dg (txs T ++ [sm]) su cut7 d7) (O9 : Own W wz (logA G D (n + 1) :: diskA D d7 :: slA 6 (.slice A2 L c2) L (hrC (T ++ [(m, a)])) :: [])) => logSync_O O9 hd7 hg7)
                go_upto_region 16 with (first
                  | (go_at_call 10; (with_reducible refine kA.out.mono ?_); rintro e w7 ⟨d7, cut7, rfl, hd7, hg7, O9⟩; replace O9 := Lib.hid O9; replace hg7 := Lib.hid hg7; replace hd7 := Lib.hid hd7)
                  | (go_at_call 11; (with_reducible refine (kS.out _ _ _ hd7.out hg7.out O9.out).mono ?_); rintro e w8 ⟨d8, cut8, rfl, hd8, hg8, O10⟩; replace hd8 := Lib.hid hd8))
                clear kA kS O9
                rw [hsm.out, hL2.out] at hg8
                replace hg8 := Lib.hid hg8
                replace O10 := Lib.hid O10
                go_wp2_with fail
                go_roundw
                case rel => exact ⟨k + 1, by omega, by omega, by go_num, LogI.next hL.out hTk (by omega) hTm.out hsmall.out hg8.out O10.out⟩
                case measure => simp [intOf]; omega
              · have hr0b : (r == 0) = false := by simpa using hr0
                go_wp2_with (go_at_call 10; (with_reducible refine kA.out.mono ?_); rintro e w7 ⟨d7, cut7, rfl, hd7, hg7, O9⟩)
                go_roundw
                case rel => exact ⟨k + 1, by omega, by omega, by go_num, LogI.next hL.out hTk (by omega) hTm.out hsmall.out (by rw [← hsm.out]; exact hg7) O9⟩
                case measure => simp [intOf]; omega
          · have hszi : (2000 : Int) < (sm.size : Int) := by omega
            go_wp2_with (go_at_call 9; (with_reducible refine kE.out.mono ?_); rintro e w' ⟨rfl, e1, rfl⟩)
            go_roundw
            case rel => exact ⟨k + 1, by omega, by omega, by go_num, T, su, cut, n, d, rfl, by omega, by omega, hTm.out, hg.out, O.out.plus e1⟩
            case measure => simp [intOf]; omega
        · rw [enc_no hok] at kE
          replace kE := Lib.hid kE
          replace hok := Lib.hid hok
          go_wp2_with (go_at_call 9; (with_reducible refine kE.out.mono ?_); rintro e w' ⟨rfl, e1, rfl⟩)
          go_roundw
          case rel => exact ⟨k + 1, by omega, by omega, by go_num, T, su, cut, n, d, rfl, by omega, by omega, hTm.out, hg.out, O.out.plus e1⟩
          case measure => simp [intOf]; omega
      · have hI := Lib.hid (show LogI W D G 60 (.slice Av T.length cv) (.int .i64 (su : Int)) wr from ⟨T, su, cut, n, d, rfl, by omega, by omega, hTm, hg, O⟩)
        have hx : k < nx → k < 60 → d.dead = true := fun h1 h2 => by
          cases h : d.dead with
          | true => rfl
          | false => exact absurd ⟨h1, h2, h⟩ hgo
        clear O hTm hg hgo
        by_cases h1 : k < nx
        · have h1i : (k : Int) < (nx : Int) := by omega
          by_cases h2 : k < 60
          · have h2i : (k : Int) < 60 := by omega
            rw [hx h1 h2] at kD
            replace kD := Lib.hid kD
            replace hx := Lib.hid hx
            go_wp2_with (go_at_call 8; (with_reducible refine kD.out.mono ?_); rintro e w' ⟨rfl, e0, rfl⟩)
            go_meet
            exact hI.out.plus e0
          · have h2i : ¬ (k : Int) < 60 := by omega
            replace hx := Lib.hid hx
            clear kD
            go_wp2_with fail
            go_meet
            exact hI.out
        · have h1i : ¬ (k : Int) < (nx : Int) := by omega
          replace hx := Lib.hid hx
          clear kD
          go_wp2_with fail
          go_meet
          exact hI.out
  clear hI0 hr hm hz hz2 hnx hl
  obtain ⟨T, su, cut, n, d, rfl, hTk, -, hTm, hg, O⟩ := hcut
  obtain ⟨Av, cv, rfl⟩ := (O.sl 2 rfl).shape
  have hT6 := small_txs hTm
  have kC := Lib.hid (logCrash_O O.drop hg hT6 keep)
  clear O hg
  go_upto_region 18 with (go_at_call 12; (with_reducible refine kC.out.mono ?_); rintro e w4 ⟨j, d2, f2, rfl, hcr, O4⟩)
  clear kC
  have kO := Lib.hid (logOpen_O O4 hN.out hcr (by rw [txs_len]; omega))
  have hsu := hcr.lo
  have hjT := hcr.hi
  have hcz : (Frm.frames ((txs T).take j)).length ≤ 3000 := Nat.le_trans hcr.at' hcr.size
  have hjl : ((txs T).take j).length = j := by rw [List.length_take, Nat.min_eq_left hcr.hi]
  rw [txs_len] at hjT
  clear hcr O4
  have q1 : ¬ (j : Int) < (su : Int) := by omega
  have q2 : ¬ (T.length : Int) < (j : Int) := by omega
  replace hT6 := Lib.hid hT6
  replace hTm := Lib.hid hTm
  replace hcz := Lib.hid hcz
  replace hjl := Lib.hid hjl
  go_upto_region 19 with (go_at_call 5; (with_reducible refine kO.out.mono ?_); rintro e w5 ⟨G2, A2, c2, d3, rfl, hn3, hf3, hr3, hd3, O5⟩)
  clear kO
  replace O5 := Lib.hid O5
  replace hf3 := Lib.hid hf3
  replace hn3 := Lib.hid hn3
  replace hr3 := Lib.hid hr3
  replace hd3 := Lib.hid hd3
  go_upto_block 2 with fail
  simp only [show decide (j < su) = false from decide_eq_false (by omega), show decide (T.length < j) = false from decide_eq_false (by omega), Bool.or_false]
  clear q1 q2
  go_cut [] (fun wz => Own W wz (logA G2 D j :: slA 1 (.slice A2 j c2) j (((txs T).take j).map Value.string) :: diskA D d3 :: slA 6 (.slice Av T.length cv) T.length (hrC T) :: []))
  case first =>
    go_wp2_with fail
    go_loopw [8, 19, 20, 21] (fun _ v _ _ wr => ∃ i : Nat, i ≤ j ∧ v = .int .i64 (i : Int) ∧ Own W wr (logA G2 D j :: slA 1 (.slice A2 j c2) j (((txs T).take j).map Value.string) :: diskA D d3 :: slA 6 (.slice Av T.length cv) T.length (hrC T) :: [])) (fun _ v _ _ _ => j - (intOf v).toNat)
    case atStart => exact ⟨0, by omega, rfl, O5.out⟩
    case round =>
      clear O5
      obtain ⟨i, hi, rfl, O⟩ := hrel
      by_cases hlt : i < j
      · have hlti : (i : Int) < (j : Int) := by omega
        obtain ⟨x, hx⟩ : ∃ x, T[i]? = some x := ⟨_, List.getElem?_eq_getElem (by omega)⟩
        obtain ⟨hok, hxm, hsz⟩ := hTm.out x (List.mem_of_getElem? hx)
        have htx := take_txs T j i x hlt hx
        obtain ⟨m, a⟩ := x
        dsimp only at hok hxm hsz htx
        obtain ⟨g, o, rfl, hgl, hc⟩ := (O.sl 1 rfl).cellsOf (by omega)
        have c0 := (hc i (by omega)).trans htx
        have kD : Calls Tryz.prog 13 #[.string (mT m)] wr (fun e w' => ∃ a : MAt, e = .returned (.tuple #[.agg #[.int .i64 m.kind, .int .i64 m.t, .int .i64 m.n, .slice a.Ac m.cs.length a.cc, .slice a.Ab m.bs.length a.cb, .slice a.Ai m.is.length a.ci], .int .i64 0]) ∧ Own W w' (msgA m a ++ (logA G2 D j :: slA 1 (.slice (some ⟨g, o, none⟩) j c2) j (((txs T).take j).map Value.string) :: diskA D d3 :: slA 6 (.slice Av T.length cv) T.length (hrC T) :: []))) := by
          have k0 := decode_any O (mT m) (by omega)
          rw [show decM (mT m) = (m, 0) from decM_back m hok] at k0
          exact k0
        obtain ⟨l1, l2, l3⟩ := okM_len hok
        clear hc htx O hok hsz
        haveI : InW g wr := ⟨hgl⟩
        generalize mT m = sm at *
        replace kD := Lib.hid kD
        replace hxm := Lib.hid hxm
        go_upto_region 25 with (go_at_call 13; go_loud (with_reducible refine kD.out.mono ?_); rintro e w6 ⟨a', rfl, O6⟩)
        clear kD c0 hgl
        have O7 := O6.newCells [.int .i64 m.kind, .int .i64 m.t, .int .i64 m.n, .slice a'.Ac m.cs.length a'.cc, .slice a'.Ab m.bs.length a'.cb, .slice a'.Ai m.is.length a'.ci] 39
        clear O6
        generalize w6.heap.size = M at *
        generalize hw7 : w6.alloc _ = w7 at *
        clear hw7
        obtain ⟨lM, qM, -⟩ := O7.cells 0 rfl
        have m0 := qM 0 (by simp)
        have m1 := qM 1 (by simp)
        have m2 := qM 2 (by simp)
        have m3 := qM 3 (by simp)
        have m4 := qM 4 (by simp)
        have m5 := qM 5 (by simp)
        simp only [List.getElem?_cons_succ, List.getElem?_cons_zero] at m0 m1 m2 m3 m4 m5
        have r1 := msgA_rows (l := [logA G2 D j, slA 1 (.slice (some ⟨g, o, none⟩) j c2) j (((txs T).take j).map Value.string), diskA D d3, slA 6 (.slice Av T.length cv) T.length (hrC T)]) (m := m) (a := a') O7.drop
        have r2 := hxm.out.plus O7.p
        obtain ⟨A', c', hv, hrT⟩ := sl_msRows (O7.sl 7 rfl)
        cases hv
        obtain ⟨gt, ot, rfl, hgt, d0, d1, d2', d3', d4, d5⟩ := ms_row hrT i (by omega) (m, a) hx
        dsimp only at d0 d1 d2' d3' d4 d5
        have kS := Lib.hid (fun (e : Ext) => sameM_any (w7.plus e) m a' a (r1.plus (Plus.plus (Plus.refl _) e)) (r2.plus (Plus.plus (Plus.refl _) e)) l1 l2 l3)
        have O8 := Lib.hid O7.drop.drop.drop.drop
        haveI : InW M w7 := ⟨lM⟩
        haveI : InW gt w7 := ⟨hgt⟩
        have hiT : (i : Int) < (T.length : Int) := by omega
        clear O7 qM lM hgt hrT r1 r2 l1 l2 l3 hxm hx
        refine wp_region_grow (by kernel_rfl) (by kernel_rfl) ?_
        repeat (go_big_quiet_step ((go_at_call 14; exact Calls.plus_of (kS.out _))))
        refine wpQuiet_nil ?_
        intro ex
        go_wp2_with fail
        go_roundw
        case rel => exact ⟨i + 1, hlt, by go_num, O8.out.plus ex⟩
        case measure => simp [intOf]; omega
      · obtain rfl : i = j := by omega
        replace O := Lib.hid O
        go_wp2_with fail
        go_meet
        exact O.out
  clear O5 hTm
  have hs7 := m7_size
  have hs8 : ∀ t ∈ (txs T).take j ++ [mT m7], t.size ≤ 65536 := fun t ht => by
    rcases List.mem_append.1 ht with ht | ht
    · exact hT6.out t (List.mem_of_mem_take ht)
    · rw [List.mem_singleton.1 ht]; omega
  have kE := fun wz => (by have := encode_any m7 a0 wz (rows_nil wz); rw [m7_enc] at this; exact this : Calls Tryz.prog 9 #[.agg #[.int .i64 11, .int .i64 7, .int .i64 0, .slice none 0 0, .slice none 0 0, .slice none 0 0]] wz (fun e w' => e = .returned (.tuple #[.string (mT m7), .int .i64 0]) ∧ wz.Plus w'))
  generalize mT m7 = s7 at *
  replace kE := Lib.hid kE
  replace hs8 := Lib.hid hs8
  replace hcut := Lib.hid hcut
  clear hT6
  go_upto_region 28 with (go_at_call 9; (with_reducible refine (kE.out _).mono ?_); rintro e w' ⟨rfl, e1, rfl⟩)
  clear kE
  have O6 := (hcut.out.plus e1).pull 2 rfl |>.rot1
  dsimp only [List.eraseIdx] at O6
  clear hcut
  generalize wc.plus e1 = w6 at *
  obtain ⟨Ts, hTs⟩ : ∃ Ts, Ts = (txs T).take j := ⟨_, rfl⟩
  rw [← hTs] at hf3 hcz hjl hs8 O6
  clear hTs hjT
  have hlen : (Ts ++ [s7]).length = j + 1 := by rw [List.length_append, hjl.out]; rfl
  have hfz : (Frm.frames (Ts ++ [s7])).length ≤ 6000 := by
    have := hcz.out
    rw [frames_snoc, List.length_append, Frm.framed_length, Frm.bytes_length]
    omega
  have O8 := O6.alloc (.cells #[.string s7] 9)
  have hB0 : (w6.alloc (.cells #[.string s7] 9)).cell? ⟨w6.heap.size, 0, none⟩ = some (.string s7) := by simp [go_sem]
  have hBl : w6.heap.size < (w6.alloc (.cells #[.string s7] 9)).heap.size := by rw [World.size_alloc]; omega
  have kA := lastAppend_O O8 hN.out hn3.out hf3.out hr3.out hd3.out hcz.out s7 hs7 (by omega) _ hBl hB0
  have kS := Lib.hid (fun (wz : World) (n7 : Nat) (d7 : Dk) (f7 : Fl) (hd7 : d7.dead = false) (hn7 : d7.n = 1) (hf7 : d7.F nm = some f7) (hg7 : Lg (Ts ++ [s7]) Ts.length (Frm.frames (Ts ++ [s7])).length f7) (O9 : Own W wz (logA G2 D n7 :: diskA D d7 :: slA 1 (.slice A2 j c2) j (Ts.map Value.string) :: slA 6 (.slice Av T.length cv) T.length (hrC T) :: [])) => lastSync_O O9 hd7 hn7 hf7 hg7)
  replace kA := Lib.hid kA
  replace hlen := Lib.hid hlen
  replace hfz := Lib.hid hfz
  clear O8 hB0 hBl O6 hf3 hn3 hr3 hd3 hs7
  go_upto_region 30 with (first
    | (go_at_call 10; (with_reducible refine kA.out.mono ?_); rintro e w7 ⟨n7, d7, f7, rfl, hd7, hn7, hf7, hg7, O9⟩; replace O9 := Lib.hid O9; replace hg7 := Lib.hid hg7; replace hd7 := Lib.hid hd7; replace hn7 := Lib.hid hn7; replace hf7 := Lib.hid hf7)
    | (go_at_call 11; (with_reducible refine (kS.out _ _ _ _ hd7.out hn7.out hf7.out hg7.out O9.out).mono ?_); rintro e w8 ⟨d8, f8, rfl, hn8, hf8, hg8, O10⟩))
  clear kA kS O9 hg7 hd7 hn7 hf7
  have kC := Lib.hid (lastCrash_O O10.drop hn8 hf8 hg8 hfz.out hs8.out)
  clear O10 hg8 hn8 hf8
  go_upto_region 31 with (go_at_call 12; (with_reducible refine kC.out.mono ?_); rintro e w9 ⟨d9, f9, rfl, hn9, hf9, hd9, hr9, ha9, hs9, O11⟩)
  clear kC
  have kO := lastOpen_O O11 hN.out hn9 hf9 hd9 hr9 ha9 hs9 hfz.out (by rw [hlen.out]; omega)
  clear O11 hn9 hf9 hd9 hr9 ha9 hs9
  rw [hlen.out] at kO
  obtain ⟨J, hJ⟩ : ∃ J, J = j + 1 := ⟨_, rfl⟩
  rw [← hJ] at kO hlen
  have hJw : ((J : Int) == (j : Int) + 1) = true := by
    rw [hJ]
    simp
  have hji : (j : Int) < (J : Int) := by omega
  have hjJ : j < J := by omega
  have hlast : ((Ts ++ [s7]).map Value.string)[j]? = some (.string s7) := by
    rw [List.getElem?_map, List.getElem?_append_right (by rw [hjl.out]; omega), hjl.out, Nat.sub_self]
    rfl
  replace kO := Lib.hid kO
  replace hlast := Lib.hid hlast
  replace hJ := Lib.hid hJ
  go_upto_region 32 with (go_at_call 5; (with_reducible refine kO.out.mono ?_); rintro e w10 ⟨G3, A3, c3, rfl, O12⟩)
  clear kO
  obtain ⟨g, o, rfl, hgl, hc⟩ := (O12.sl 0 rfl).cellsOf (by omega)
  have b0 := (hc j (by omega)).trans hlast.out
  haveI : InW g w10 := ⟨hgl⟩
  have hp := Lib.hid O12.p
  clear O12 hc hgl
  go_wp2_with fail
  go_ret
  exact ⟨rfl, hp.out⟩
end Go.Proofs.YtpdlgflbcgemnaaGreatDoor
