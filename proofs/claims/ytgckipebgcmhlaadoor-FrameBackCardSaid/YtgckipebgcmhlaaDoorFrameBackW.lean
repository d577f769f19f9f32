/- FrameBack: walk. -/
import Derived.Test.YtgckipebgcmhlaaDoorFrameSumsW
import Derived.Test.YtgckipebgcmhlaaDoorFrameAllW
import Derived.Test.YtgckipebgcmhlaaDoorBack
set_option linter.unusedSimpArgs false
set_option linter.unusedVariables false
namespace Go.Proofs.YtgckipebgcmhlaaDoor
open Go.RowKit
open Go.Crc hiding step
theorem infoInt : (Tryd.prog.info? 3).map (fun i => (i.zero, i.size, i.bytes)) = some (some (.int .i64 0), 1, 8) := by kernel_rfl
theorem underInts : Tryd.prog.underlying 42 = some (.slice 3) := by kernel_rfl
def ends (xs : List ByteArray) (k : Nat) : List Value := (List.range k).map fun j => .int .i64 (fend xs (j + 1))
theorem ends_next (xs : List ByteArray) (k : Nat) : ends xs (k + 1) = ends xs k ++ [.int .i64 (fend xs (k + 1))] := by simp [ends, List.range_succ]
theorem fend_upto (xs : List ByteArray) : ∀ k, k ≤ xs.length → fend xs k = upto xs k + 7 * k
  | 0, _ => by simp [fend, upto, frames, allBytes]
  | k + 1, h => by rw [fend_next xs k h, upto_next xs k h, fend_upto xs k (by omega)]; omega
theorem frame_big (s : ByteArray) (w : World) (hm : s.size ≤ 140737488351232) (hs : 65536 < s.size) :
    Calls Tryd.prog 13 #[.string s] w fun e w' => e = .returned (.tuple #[.string (txt []), .int .i64 1]) ∧ w.Plus w' := frame_long s w hm hs
theorem frameBack_walk (xs : List ByteArray) (A : Option Addr) (c : Nat) (cut : Int) (w : World) (hT : Nib w) (hcap : xs.length ≤ c) (hn : xs.length ≤ 140737488351232) (hr : RowsAt w A 1 xs.length (strAt xs)) (hs : ∀ k, (xs.getD k ByteArray.empty).size ≤ 140737488351232)
    (hcut : -9223372036854775808 ≤ cut ∧ cut ≤ 9223372036854775807) :
    Calls Tryd.prog 7 #[.slice A xs.length c, .int .i64 cut] w fun e w' => e = .returned (.bool true) ∧ w.Plus w' := by
  obtain ⟨i0, hi0, hz0, hz1, hz2⟩ := info_parts infoInt
  have hL := fun w hr => long_any xs A c w hn hr hs
  by_cases hl : isLong xs = true
  · rw [hl] at hL
    go_enter Tryd.func7, Tryd.ntmps7
    go_wp2_with (first | (go_at_call 9; (with_reducible refine (hL _ (hr.plus (by (repeat (first | exact Plus.refl _ | apply Plus.plus | apply Plus.alloc | apply Plus.drew))))).mono ?_); rintro e w' ⟨rfl, ey, rfl⟩) | (go_at_call 10; (with_reducible refine (awake_any _ (hT.plus (by (repeat (first | exact Plus.refl _ | apply Plus.plus | apply Plus.alloc | apply Plus.drew))))).mono ?_); rintro e w' ⟨rfl, ey, rfl⟩))
    go_ret
    exact ⟨rfl, by (repeat (first | exact Plus.refl _ | apply Plus.plus | apply Plus.alloc | apply Plus.drew))⟩
  · have hb := not_long hl
    rw [show isLong xs = false by simpa using hl] at hL
    clear hl
    have hfe : ∀ k, k ≤ xs.length → fend xs k ≤ 100350 := fun k hk => by
      rw [fend_upto xs k hk]
      have := upto_mono xs k hk
      omega
    replace hfe := Lib.hid hfe
    have hb1 := hb.1
    replace hb := Lib.hid hb
    go_enter Tryd.func7, Tryd.ntmps7
    go_wp2_with (first | (go_at_call 9; (with_reducible refine (hL _ (hr.plus (by (repeat (first | exact Plus.refl _ | apply Plus.plus | apply Plus.alloc | apply Plus.drew))))).mono ?_); rintro e w' ⟨rfl, ey, rfl⟩) | (go_at_call 10; (with_reducible refine (awake_any _ (hT.plus (by (repeat (first | exact Plus.refl _ | apply Plus.plus | apply Plus.alloc | apply Plus.drew))))).mono ?_); rintro e w' ⟨rfl, ey, rfl⟩))
    clear hL
    go_loopw [5, 6, 7, 8, 9] (fun t v i f g wr => ∃ k : Nat, k ≤ xs.length ∧ i = .int .i64 k ∧ (∀ j, j < k → (xs.getD j ByteArray.empty).size ≤ 65536) ∧ t = .string (txt (frames (xs.take k))) ∧ wr.ownsRow w.heap.size 3 1 v k (ends xs k) ∧ w.Plus wr) (fun _ _ i _ _ _ => xs.length - (intOf i).toNat)
    case atStart => exact ⟨0, Nat.zero_le _, rfl, fun j hj => absurd hj (by omega), rfl, World.ownsRow_nil _ _ _ _, by (repeat (first | exact Plus.refl _ | apply Plus.plus | apply Plus.alloc | apply Plus.drew))⟩
    case round =>
      obtain ⟨k, hk, rfl, hsm, rfl, hown, hp⟩ := hrel
      by_cases hlt : k < xs.length
      · obtain ⟨b1, o1, rfl, hb1', hc1⟩ := (hr.plus hp) (by omega)
        haveI : InW b1 wr := ⟨hb1'⟩
        have c1 := hc1 k 0 hlt (by omega)
        clear hc1
        unfold strAt at c1
        simp only [Nat.add_zero, Nat.mul_one] at c1
        have hsk := hs k
        have hfn := fend_next xs k hlt
        have htn := take_next xs k hlt
        have hen := ends_next xs k
        generalize hy : xs.getD k ByteArray.empty = y at c1 hsk hfn htn
        by_cases hbig : 65536 < y.size
        · have hbig2 : (65536 : Int) < y.size := by omega
          have hF := fun w => frame_big y w hsk hbig
          replace hfn := Lib.hid hfn
          replace hy := Lib.hid hy
          replace htn := Lib.hid htn
          replace hen := Lib.hid hen
          replace hsm := Lib.hid hsm
          go_wp2_with (first | (go_at_call 13; (with_reducible refine (hF _).mono ?_); rintro e w' ⟨rfl, ez, rfl⟩) | (go_at_call 10; (with_reducible refine (awake_any _ (hT.plus (Plus.plus hp _))).mono ?_); rintro e w' ⟨rfl, ex, rfl⟩) | (go_at_call 10; (with_reducible refine (awake_any _ (hT.plus (by (repeat (first | exact Plus.refl _ | apply Plus.plus | apply Plus.alloc | apply Plus.drew))))).mono ?_); rintro e w' ⟨rfl, ey, rfl⟩))
          go_ret
          exact ⟨rfl, Plus.plus (Plus.plus hp _) _⟩
        · have hbig2 : ¬ (65536 : Int) < y.size := by omega
          have hF := fun w hT => frame_short y w hT (by omega)
          have hfl := framed_length (bytes y)
          rw [bytes_length] at hfl
          have hfz : (txt (framed (bytes y))).size = 7 + y.size := by rw [txt_size, hfl]
          have hft : (txt (frames (xs.take k))).size = fend xs k := txt_size _
          have hB := hfe.out (k + 1) hlt
          rw [hfn] at hB
          have hkey : txt (frames (xs.take k)) ++ txt (framed (bytes y)) = txt (frames (xs.take (k + 1))) := by
            rw [htn, frames_append, frames_cons, txt_append]; simp [frames]
          have hkz : (txt (frames (xs.take (k + 1)))).size = fend xs (k + 1) := txt_size _
          have hadd : (txt (frames (xs.take k))).size + (txt (framed (bytes y))).size ≤ 200000 := by omega
          rw [← hkey] at hkz
          have hsm2 : ∀ j, j < k + 1 → (xs.getD j ByteArray.empty).size ≤ 65536 := fun j hj => by
            rcases Nat.lt_or_ge j k with h | h
            · exact hsm j h
            · obtain rfl : j = k := by omega
              rw [hy]; omega
          replace hsm2 := Lib.hid hsm2
          replace hkey := Lib.hid hkey
          generalize txt (frames (xs.take k)) = T at *
          generalize txt (framed (bytes y)) = U at *
          generalize fend xs (k + 1) = m at *
          replace hfn := Lib.hid hfn
          replace hy := Lib.hid hy
          replace htn := Lib.hid htn
          replace hen := Lib.hid hen
          replace hsm := Lib.hid hsm
          replace hft := Lib.hid hft
          replace hfz := Lib.hid hfz
          go_wp2_with (first | (go_at_call 13; (with_reducible refine (hF _ (hT.plus (by first | exact hp | exact Plus.plus hp _))).mono ?_); rintro e w' ⟨rfl, ez, rfl⟩) | (at_builtin; refine wpList_append_own _ rfl _ _ 42 rfl w.heap.size 3 i0 (.int .i64 0) 1 8 underInts hi0 hz0 hz1 hz2 rfl (by decide) _ _ _ rfl ((hown.plus _).alloc _) _ 1 1 [.int .i64 (m : Int)] rfl rfl (one_new (by simp [go_sem])) (by intro u hu; simp at hu; subst hu; rfl) (by unfold maxLen; omega) (by omega) (by have := (Plus.below hp).size; simp [go_sem]; omega) ?_; intro v' w1 hown1 hgrow1 _) | (go_at_call 10; (with_reducible refine (awake_any _ (hT.plus (by (repeat (first | exact Plus.refl _ | apply Plus.plus | apply Plus.alloc | apply Plus.drew))))).mono ?_); rintro e w' ⟨rfl, ey, rfl⟩))
          refine ⟨⟨k + 1, hlt, by simp, hsm2.out, by rw [hkey.out], by rw [hen.out]; exact hown1, World.grownBy.toPlus (Plus.alloc (Plus.plus hp _) _) hgrow1 (fun g hg => (hown.lt g hg).1)⟩, ?_⟩
          simp [intOf]; omega
      · have hke : k = xs.length := by omega
        subst hke
        rw [List.take_length]
        obtain ⟨E, ec, rfl, hre⟩ := hown.rows (fun i _ => .int .i64 (fend xs (i + 1))) (fun i hi => by simp [ends, hi])
        have hTz : (txt (frames xs)).size = fend xs xs.length := by rw [txt_size, fend_all]
        have hB := hfe.out xs.length (Nat.le_refl _)
        have hTB : (txt (frames xs)).size ≤ 100350 := by omega
        have hsmall : ∀ j, (xs.getD j ByteArray.empty).size ≤ 65536 := fun j => by
          rcases Nat.lt_or_ge j xs.length with h | h
          · exact hsm j h
          · simp [List.getD, Nat.not_lt.2 h]
        have hwhole := back_whole hsmall
        have hcutall := fun cut h j hj hle hst => back_all (l := xs) (cut := cut) hsmall h (j := j) hj hle hst
        have hTdef : txt (frames xs) = txt (frames xs) := rfl
        generalize hTT : txt (frames xs) = T at hTz hTB hwhole
        obtain ⟨d, hd0, hd⟩ : ∃ d : Int, d = cut.tmod ((T.size : Int) + 1) ∧ -(T.size : Int) ≤ d ∧ d ≤ T.size := ⟨_, rfl, by
          have h1 := Int.lt_tmod_of_pos cut (show (0 : Int) < (T.size : Int) + 1 by omega)
          have h2 := Int.tmod_lt_of_pos cut (show (0 : Int) < (T.size : Int) + 1 by omega)
          omega⟩
        obtain ⟨q, hq0, hq⟩ : ∃ q : Nat, (d + T.size + 1).tmod ((T.size : Int) + 1) = q ∧ q ≤ T.size := by
          have h0 : (0 : Int) ≤ d + T.size + 1 := by omega
          rw [Int.tmod_eq_emod_of_nonneg h0]
          have h1 := Int.emod_nonneg (d + T.size + 1) (show (T.size : Int) + 1 ≠ 0 by omega)
          have h2 := Int.emod_lt_of_pos (d + T.size + 1) (show (0 : Int) < (T.size : Int) + 1 by omega)
          exact ⟨((d + T.size + 1) % ((T.size : Int) + 1)).toNat, by omega, by omega⟩
        have hd1 := hd0.symm
        have hne : ¬ ((T.size : Int) + 1 = 0) := by omega
        have hne2 : (((T.size : Int) + 1) == 0) = false := by simp; omega
        replace hTz := Lib.hid hTz
        replace hB := Lib.hid hB
        replace hwhole := Lib.hid hwhole
        replace hsm := Lib.hid hsm
        replace hsmall := Lib.hid hsmall
        replace hcutall := Lib.hid hcutall
        replace hTT := Lib.hid hTT
        clear hTdef hd0 hown
        go_wp2_with (first | (go_at_call 10; (with_reducible refine (awake_any _ (hT.plus (by (repeat (first | exact Plus.refl _ | apply Plus.plus | apply Plus.alloc | apply Plus.drew))))).mono ?_); rintro e w' ⟨rfl, ey, rfl⟩))
        go_loop [10, 11] (fun kk en => ∃ j : Nat, j ≤ xs.length ∧ kk = .int .i64 j ∧ en = .int .i64 (fend xs j) ∧ fend xs j ≤ q) (fun kk _ => xs.length - (intOf kk).toNat)
        case atStart => exact ⟨0, Nat.zero_le _, rfl, by simp [fend, frames], by simp [fend, frames]⟩
        case round =>
          obtain ⟨j, hj, rfl, rfl, hjq⟩ := hrel
          by_cases hgo : j < xs.length ∧ fend xs (j + 1) ≤ q
          · obtain ⟨hlt, hle⟩ := hgo
            obtain ⟨b2, o2, rfl, hb2, hc2⟩ := hre (by omega)
            haveI : InW b2 wr := ⟨hb2⟩
            have c2 := hc2 j 0 hlt (by omega)
            clear hc2 hre
            simp only [Nat.add_zero, Nat.mul_one] at c2
            generalize hm : fend xs (j + 1) = m at c2 hle
            replace hm := Lib.hid hm
            generalize fend xs j = m0 at hjq
            go_wp2
            go_round
            · exact ⟨j + 1, hlt, by simp, by rw [hm.out], by rw [hm.out]; exact hle⟩
            · simp [intOf]; omega
          · have hst : j = xs.length ∨ q < fend xs (j + 1) := by
              rcases Nat.lt_or_ge j xs.length with h | h
              · exact .inr (Nat.lt_of_not_le fun h2 => hgo ⟨h, h2⟩)
              · exact .inl (by omega)
            have hA1 := fun w hT => all_rows T w hT (by omega)
            rw [hwhole.out, ← fend_all, ← hTz.out] at hA1
            have hjc : j ≤ c := by omega
            have hex : T.extract 0 q = txt ((frames xs).take q) := by
              rw [← hTT.out, extract_eq]; rfl
            have hql : q ≤ (frames xs).length := by
              have h1 := hTz.out
              rw [fend_all] at h1
              omega
            have hend := hcutall.out q hql j hj hjq hst
            have hA2 := fun w hT => all_rows (T.extract 0 q) w hT (by rw [ByteArray.size_extract]; omega)
            rw [hex, hend, ← hex] at hA2
            have hlen : (xs.take j).length = j := by rw [List.length_take]; omega
            simp only at hA1 hA2
            rw [hlen] at hA2
            have hS1 := fun B d w hB hA => same_eq xs B A d c w hn hB hA
            have hS2 := fun B d w hB hA => same_eq (xs.take j) B A d c w (by rw [hlen]; omega) hB hA
            rw [hlen] at hS2
            have hr2 : RowsAt w A 1 j (strAt (xs.take j)) := fun h0 => by
              obtain ⟨b, off, hA, hb, hc⟩ := hr (by omega)
              refine ⟨b, off, hA, hb, fun i l hi hl => ?_⟩
              rw [hc i l (by omega) hl]
              unfold strAt
              rw [List.getD_eq_getElem?_getD, List.getD_eq_getElem?_getD, List.getElem?_take, if_pos hi]
            have hTsz : fend xs xs.length = T.size := hTz.out.symm
            clear hfe
            have hfacts : (j = xs.length) ∨ (j < xs.length ∧ q < fend xs (j + 1)) := by
              rcases hst with h | h
              · exact .inl h
              · rcases Nat.lt_or_ge j xs.length with h2 | h2
                · exact .inr ⟨h2, h⟩
                · exact .inl (by omega)
            obtain ⟨e0, rfl⟩ := hp
            generalize hm0 : fend xs j = m0 at hjq hA2
            clear hst hgo hend hex hql hlen hTsz hcutall hwhole hTT hTz
            rcases hfacts with rfl | ⟨hlt, hgt⟩
            · skip
              go_wp2_with (first | (go_at_call 17; (with_reducible refine (hA1 _ (hT.plus (by (repeat (first | exact Plus.refl _ | apply Plus.plus | apply Plus.alloc | apply Plus.drew))))).mono ?_); rintro e w' ⟨B1, d1, rfl, hr1, e1, rfl⟩) | (go_at_call 17; (with_reducible refine (hA2 _ (hT.plus (by (repeat (first | exact Plus.refl _ | apply Plus.plus | apply Plus.alloc | apply Plus.drew))))).mono ?_); rintro e w' ⟨B2, d2, rfl, hr2', e2, rfl⟩) | (go_at_call 19; (with_reducible refine (hS1 _ _ _ (hr1.plus (by (repeat (first | exact Plus.refl _ | apply Plus.plus | apply Plus.alloc | apply Plus.drew)))) (hr.plus (by (repeat (first | exact Plus.refl _ | apply Plus.plus | apply Plus.alloc | apply Plus.drew))))).mono ?_); rintro e w' ⟨rfl, e3, rfl⟩) | (go_at_call 19; (with_reducible refine (hS2 _ _ _ (hr2'.plus (by (repeat (first | exact Plus.refl _ | apply Plus.plus | apply Plus.alloc | apply Plus.drew)))) (hr2.plus (by (repeat (first | exact Plus.refl _ | apply Plus.plus | apply Plus.alloc | apply Plus.drew))))).mono ?_); rintro e w' ⟨rfl, e4, rfl⟩) | (go_at_call 10; (with_reducible refine (awake_any _ (hT.plus (by (repeat (first | exact Plus.refl _ | apply Plus.plus | apply Plus.alloc | apply Plus.drew))))).mono ?_); rintro e w' ⟨rfl, ey, rfl⟩))
              go_ret
              exact ⟨rfl, by (repeat (first | exact Plus.refl _ | apply Plus.plus | apply Plus.alloc | apply Plus.drew))⟩
            · obtain ⟨b2, o2, rfl, hb2, hc2⟩ := hre (by omega)
              haveI : InW b2 (w.plus e0) := ⟨hb2⟩
              have c2 := hc2 j 0 hlt (by omega)
              clear hc2 hre
              simp only [Nat.add_zero, Nat.mul_one] at c2
              generalize fend xs (j + 1) = m at c2 hgt
              go_wp2_with (first | (go_at_call 17; (with_reducible refine (hA1 _ (hT.plus (by (repeat (first | exact Plus.refl _ | apply Plus.plus | apply Plus.alloc | apply Plus.drew))))).mono ?_); rintro e w' ⟨B1, d1, rfl, hr1, e1, rfl⟩) | (go_at_call 17; (with_reducible refine (hA2 _ (hT.plus (by (repeat (first | exact Plus.refl _ | apply Plus.plus | apply Plus.alloc | apply Plus.drew))))).mono ?_); rintro e w' ⟨B2, d2, rfl, hr2', e2, rfl⟩) | (go_at_call 19; (with_reducible refine (hS1 _ _ _ (hr1.plus (by (repeat (first | exact Plus.refl _ | apply Plus.plus | apply Plus.alloc | apply Plus.drew)))) (hr.plus (by (repeat (first | exact Plus.refl _ | apply Plus.plus | apply Plus.alloc | apply Plus.drew))))).mono ?_); rintro e w' ⟨rfl, e3, rfl⟩) | (go_at_call 19; (with_reducible refine (hS2 _ _ _ (hr2'.plus (by (repeat (first | exact Plus.refl _ | apply Plus.plus | apply Plus.alloc | apply Plus.drew)))) (hr2.plus (by (repeat (first | exact Plus.refl _ | apply Plus.plus | apply Plus.alloc | apply Plus.drew))))).mono ?_); rintro e w' ⟨rfl, e4, rfl⟩) | (go_at_call 10; (with_reducible refine (awake_any _ (hT.plus (by (repeat (first | exact Plus.refl _ | apply Plus.plus | apply Plus.alloc | apply Plus.drew))))).mono ?_); rintro e w' ⟨rfl, ey, rfl⟩))
              go_ret
              exact ⟨rfl, by (repeat (first | exact Plus.refl _ | apply Plus.plus | apply Plus.alloc | apply Plus.drew))⟩
end Go.Proofs.YtgckipebgcmhlaaDoor
