/- zones: Beside and the reference's: walks. -/
import Derived.Test.YteaikedgbgdcnaaZonesF
import Derived.Test.YteaikedgbgdcnaaTwo
set_option linter.unusedSimpArgs false
set_option linter.unusedVariables false
namespace Go.Proofs.Yteaikedgbgdcnaa
open Go.RowKit
/-- does zone i lie beside zone k? -/
def besI (a b k i : Int) : Bool := decide (0 ≤ k ∧ k < a * b) && (decide (i ≠ k) && decide (max (i % a - k % a) (max (-(i % a - k % a)) (max (i / a - k / a) (-(i / a - k / a)))) = 1))
section
variable (a b s r : Int) (n : Nat) (w : World)
theorem beside_nil (k : Int) : Calls Try.prog 23 #[.pointer none, .int .i64 k] w fun e w' => e = .returned (.slice none 0 0) ∧ w.Plus w' := by
  go_enter Try.func23, Try.ntmps23
  go_wp2_with (first | (go_at_call 27; (with_reducible refine (count_nil _).mono ?_); rintro e w' ⟨rfl, ey, rfl⟩))
  go_loopw [5, 11] (fun v i wr => i = .int .i64 0 ∧ v = .slice none 0 0 ∧ w.Plus wr) (fun _ _ _ => 0)
  case atStart => exact ⟨rfl, rfl, by (repeat (first | exact Plus.refl _ | apply Plus.plus | apply Plus.alloc | apply Plus.drew))⟩
  case round =>
    obtain ⟨rfl, rfl, e, rfl⟩ := hrel
    go_wp2_with fail
    go_ret
    exact ⟨rfl, by (repeat (first | exact Plus.refl _ | apply Plus.plus | apply Plus.alloc | apply Plus.drew))⟩
set_option maxHeartbeats 1000000 in
theorem beside_any (k : Int) (ho : Okk a b s r) (hm : MapAt w n a b s r) (hk : -9223372036854775808 ≤ k ∧ k ≤ 9223372036854775807) :
    Calls Try.prog 23 #[mapV n, .int .i64 k] w (Left w (pick (besI a b k) (a * b).toNat)) := by
  obtain ⟨i0, hi0, hz0, hz1, hz2⟩ := info_parts infoInt
  have hab := ho.ab
  have hC := fun w hm => count_any a b s r n w ho hm
  obtain ⟨m, hM⟩ : ∃ m : Nat, a * b = m := ⟨(a * b).toNat, by omega⟩
  rw [hM] at hab hC
  have hMt : (a * b).toNat = m := by omega
  rw [hMt]
  have ha0 : ¬ a = 0 := by have := ho.a1; omega
  have a1 := ho.a1
  have a4 := ho.a4
  have hdv : ∀ i : Nat, i < m → 0 ≤ (i : Int) % a ∧ (i : Int) % a < a ∧ 0 ≤ (i : Int) / a ∧ (i : Int) / a < b := fun i hi => divs ho.a1 ho.a4 ho.b1 ho.b4 (by omega) (by rw [hM]; omega)
  have hdk : 0 ≤ k → k < m → 0 ≤ k % a ∧ k % a < a ∧ 0 ≤ k / a ∧ k / a < b := fun h0 h1 => divs ho.a1 ho.a4 ho.b1 ho.b4 h0 (by rw [hM]; exact h1)
  have b4 := ho.b4
  have hdef : ∀ i : Int, besI a b k i = (decide (0 ≤ k ∧ k < m) && (decide (i ≠ k) && decide (max (i % a - k % a) (max (-(i % a - k % a)) (max (i / a - k / a) (-(i / a - k / a)))) = 1))) := fun i => by unfold besI; rw [hM]
  replace hdv := Lib.hid hdv
  replace hdk := Lib.hid hdk
  replace hdef := Lib.hid hdef
  replace hC := Lib.hid hC
  have hm0 := Lib.hid hm
  clear hMt ho hm hM
  go_enter Try.func23, Try.ntmps23
  go_wp2_with (first | (go_at_call 27; (with_reducible refine (hC.out _ (hm0.out.plus (by (repeat (first | exact Plus.refl _ | apply Plus.plus | apply Plus.alloc | apply Plus.drew))))).mono ?_); rintro e w' ⟨rfl, ey, rfl⟩))
  go_loopw [5, 11] (fun v i wr => ∃ j : Nat, j ≤ m ∧ i = .int .i64 j ∧ wr.ownsRow w.heap.size 3 1 v (pick (besI a b k) j).length ((pick (besI a b k) j).map (Value.int .i64)) ∧ w.Plus wr) (fun _ i _ => m - (intOf i).toNat)
  case atStart => exact ⟨0, Nat.zero_le _, rfl, World.ownsRow_nil _ _ _ _, by (repeat (first | exact Plus.refl _ | apply Plus.plus | apply Plus.alloc | apply Plus.drew))⟩
  case round =>
    obtain ⟨j, hj, rfl, hown, hp⟩ := hrel
    have hpl := pick_len (besI a b k) j
    by_cases hlt : j < m
    · have hd := hdv.out j hlt
      have hpy := fun h => pick_yes (P := besI a b k) (k := j) h
      have hpn := fun h => pick_no (P := besI a b k) (k := j) h
      have hB := hdef.out j
      obtain ⟨lt, c0, c1, c2, c3, c7, c8, c9, c10⟩ := hm0.out.plus hp
      haveI : InW n wr := ⟨lt⟩
      have e1 : (j : Int).tmod a = (j : Int) % a := Int.tmod_eq_emod_of_nonneg (by omega)
      have e2 : (j : Int).tdiv a = (j : Int) / a := Int.tdiv_eq_ediv_of_nonneg (by omega)
      by_cases hk0 : 0 ≤ k
      · by_cases hk1 : k < m
        · have hd2 := hdk.out hk0 hk1
          have e3 : k.tmod a = k % a := Int.tmod_eq_emod_of_nonneg hk0
          have e4 : k.tdiv a = k / a := Int.tdiv_eq_ediv_of_nonneg hk0
          generalize (j : Int) % a = u at *
          generalize (j : Int) / a = v at *
          generalize k % a = u' at *
          generalize k / a = v' at *
          have g1 : wrap64 (u - u') = u - u' := w64_id (by omega) (by omega)
          have g2 : wrap64 (v - v') = v - v' := w64_id (by omega) (by omega)
          have g3 : wrap64 v = v := w64_id (by omega) (by omega)
          have g4 : wrap64 v' = v' := w64_id (by omega) (by omega)
          have g5 : wrap64 (-(u - u')) = -(u - u') := w64_id (by omega) (by omega)
          have g6 : wrap64 (-(v - v')) = -(v - v') := w64_id (by omega) (by omega)
          by_cases hne : (j : Int) = k
          · have hPj : besI a b k j = false := by rw [hB]; simp [hne]
            have hne1 : decide ((j : Int) ≠ k) = false := by simpa using hne
            have hn := hpn hPj
            clear hpy hpn hB
            replace hn := Lib.hid hn
            go_wp2_with fail
            go_region
            go_wp2_with (first | (go_at_call 27; (with_reducible refine (hC.out _ (hm0.out.plus (by first | exact hp | exact Plus.drew hp | exact Plus.plus hp _ | exact Plus.plus (Plus.drew hp) _))).mono ?_); rintro e w' ⟨rfl, ez, rfl⟩))
            refine ⟨⟨j + 1, hlt, by first | (simp; done) | (simp; omega), by rw [hn.out]; first | exact hown.plus _ | exact hown.drew | exact hown.drew.plus _, by first | exact Plus.plus hp _ | exact Plus.drew hp | exact Plus.plus (Plus.drew hp) _⟩, ?_⟩
            simp [intOf]; omega
          · by_cases hmx : max (u - u') (max (-(u - u')) (max (v - v') (-(v - v')))) = 1
            · have hPj : besI a b k j = true := by rw [hB]; simp [hne, hk0, hk1, hmx]
              have hn := hpy hPj
              clear hpy hpn hB
              replace hn := Lib.hid hn
              go_wp2_with fail
              go_region
              go_wp2_with (first | (go_at_call 27; (with_reducible refine (hC.out _ (hm0.out.plus (by first | exact hp | exact Plus.drew hp | exact Plus.plus hp _ | exact Plus.plus (Plus.drew hp) _))).mono ?_); rintro e w' ⟨rfl, ez, rfl⟩) | (at_builtin; refine wpList_append_own _ rfl _ _ 39 rfl w.heap.size 3 i0 (.int .i64 0) 1 8 underInts hi0 hz0 hz1 hz2 rfl (by decide) _ _ _ rfl ((hown.plus _).alloc _) _ 1 1 [.int .i64 (j : Int)] rfl rfl (one_new (by simp [go_sem])) (by intro u hu; simp at hu; subst hu; rfl) (by unfold maxLen; omega) (by omega) (by have := (Plus.below hp).size; simp [go_sem]; omega) ?_; intro v' w1 hown1 hgrow1 _))
              refine ⟨⟨j + 1, hlt, by simp, by rw [hn.out]; simpa using hown1, World.grownBy.toPlus (Plus.alloc (Plus.plus hp _) _) hgrow1 (fun g hg => (hown.lt g hg).1)⟩, ?_⟩
              simp [intOf]; omega
            · have hPj : besI a b k j = false := by rw [hB]; simp [hmx]
              have hmx1 : decide (max (u - u') (max (-(u - u')) (max (v - v') (-(v - v')))) = 1) = false := by simpa using hmx
              have hmx2 : (max (u - u') (max (-(u - u')) (max (v - v') (-(v - v')))) == 1) = false := by simpa using hmx
              have hn := hpn hPj
              clear hpy hpn hB
              replace hn := Lib.hid hn
              go_wp2_with fail
              go_region
              go_wp2_with (first | (go_at_call 27; (with_reducible refine (hC.out _ (hm0.out.plus (by first | exact hp | exact Plus.drew hp | exact Plus.plus hp _ | exact Plus.plus (Plus.drew hp) _))).mono ?_); rintro e w' ⟨rfl, ez, rfl⟩))
              refine ⟨⟨j + 1, hlt, by first | (simp; done) | (simp; omega), by rw [hn.out]; first | exact hown.plus _ | exact hown.drew | exact hown.drew.plus _, by first | exact Plus.plus hp _ | exact Plus.drew hp | exact Plus.plus (Plus.drew hp) _⟩, ?_⟩
              simp [intOf]; omega
        · have hPj : besI a b k j = false := by rw [hB]; simp; omega
          replace hd := Lib.hid hd
          generalize (j : Int) % a = u at *
          generalize (j : Int) / a = v at *
          have hn := hpn hPj
          clear hpy hpn hB
          replace hn := Lib.hid hn
          go_wp2_with fail
          go_region
          go_wp2_with (first | (go_at_call 27; (with_reducible refine (hC.out _ (hm0.out.plus (by first | exact hp | exact Plus.drew hp | exact Plus.plus hp _ | exact Plus.plus (Plus.drew hp) _))).mono ?_); rintro e w' ⟨rfl, ez, rfl⟩))
          refine ⟨⟨j + 1, hlt, by first | (simp; done) | (simp; omega), by rw [hn.out]; first | exact hown.plus _ | exact hown.drew | exact hown.drew.plus _, by first | exact Plus.plus hp _ | exact Plus.drew hp | exact Plus.plus (Plus.drew hp) _⟩, ?_⟩
          simp [intOf]; omega
      · have hPj : besI a b k j = false := by rw [hB]; simp; omega
        replace hd := Lib.hid hd
        generalize (j : Int) % a = u at *
        generalize (j : Int) / a = v at *
        have hn := hpn hPj
        clear hpy hpn hB
        replace hn := Lib.hid hn
        go_wp2_with fail
        go_region
        go_wp2_with (first | (go_at_call 27; (with_reducible refine (hC.out _ (hm0.out.plus (by first | exact hp | exact Plus.drew hp | exact Plus.plus hp _ | exact Plus.plus (Plus.drew hp) _))).mono ?_); rintro e w' ⟨rfl, ez, rfl⟩))
        refine ⟨⟨j + 1, hlt, by first | (simp; done) | (simp; omega), by rw [hn.out]; first | exact hown.plus _ | exact hown.drew | exact hown.drew.plus _, by first | exact Plus.plus hp _ | exact Plus.drew hp | exact Plus.plus (Plus.drew hp) _⟩, ?_⟩
        simp [intOf]; omega
    · have hjm : j = m := by omega
      subst hjm
      go_wp2_with fail
      go_ret
      exact left_of rfl hown hp
end
end Go.Proofs.Yteaikedgbgdcnaa
