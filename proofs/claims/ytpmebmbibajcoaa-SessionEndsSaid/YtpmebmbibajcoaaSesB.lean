/- session: awake: walk. -/
import Derived.Test.YtpmebmbibajcoaaSesA
set_option linter.unusedSimpArgs false
set_option linter.unusedVariables false
namespace Go.Proofs.Ytpmebmbibajcoaa
open Go.RowKit
set_option maxRecDepth 100000 in
set_option maxHeartbeats 4000000 in
theorem awake_any (w : World) : Calls Try.prog 17 #[] w fun e w' => e = .returned (.bool true) ∧ w.Plus w' := by
  have hN1 := Lib.hid (fun w => new_E w 1 (by decide))
  have hN5 := Lib.hid (fun w => new_E w 5 (by decide))
  go_enter Try.func17, Try.ntmps17
  go_upto_region 5 with (first | (go_at_call 11; (with_reducible refine (hN1.out _).mono ?_); rintro e w1 ⟨N1, rfl, hn1, ha, hp1⟩) | (go_at_call 11; (with_reducible refine (hN5.out _).mono ?_); rintro e w2 ⟨N2, rfl, hn2, hb, hp2⟩))
  have P0 : Pair2 w w2 N1 N2 xA0 xB0 (fun k => k = N1) (fun k => k = N2) := by
    have hlt := ha.lt
    have hsz := (Plus.below hp1).size
    refine ⟨?_, hb, fun k h1 h2 => ?_, fun k h1 => ?_, fun k h2 => ?_, Plus.trans hp1 hp2⟩
    · obtain ⟨e2, rfl⟩ := hp2
      exact ha.plus e2
    · omega
    · omega
    · omega
  clear hn1 hn2 ha hb hp1 hp2
  generalize (fun k => k = N1) = S1 at P0
  generalize (fun k => k = N2) = S2 at P0
  have k1 := Lib.hid (posts_A P0 (by decide) (by decide))
  rw [st1] at k1
  go_upto_region 8 with (go_at_call 14; (with_reducible refine k1.out.mono ?_); rintro e w3 ⟨A1, cap1, rfl, Q1, P1, G1⟩; obtain ⟨g1, o1, rfl, _, l1, d1⟩ := Q1.get (by decide); obtain ⟨z0, z1, z2, z3, z4⟩ := d1 0 _ rfl; haveI : InW g1 w3 := ⟨l1⟩; simp only [Nat.zero_mul, Nat.add_zero] at z0 z1 z2 z3 z4)
  have k2 := Lib.hid (hear_B P1 q1 (by decide) (by decide) (by decide))
  rw [st2] at k2
  go_upto_region 9 with (go_at_call 12; (with_reducible refine k2.out.mono ?_); rintro e w4 ⟨rfl, P2, G2⟩)
  obtain ⟨T2, hT2⟩ : ∃ T, T = Grown S2 w3 w4 := ⟨_, rfl⟩
  rw [← hT2] at P2
  clear hT2
  have P3 := P2.alloc (.cells #[.string ⟨#[]⟩, .bool false, .bool true] 28)
  have X1 := HdAt.new w4 ⟨⟨#[]⟩, false, true⟩ rfl
  have x1 : ¬ S1 w4.heap.size := fun h => by have := P2.a.sub _ h; omega
  have x2 : ¬ T2 w4.heap.size := fun h => by have := P2.b.sub _ h; omega
  have x3 : w.heap.size ≤ w4.heap.size := (Plus.below P2.p).size
  obtain ⟨w5, hw5⟩ : ∃ w5, w5 = w4.alloc (.cells #[.string ⟨#[]⟩, .bool false, .bool true] 28) := ⟨_, rfl⟩
  simp only [← hw5] at P3 X1
  rw [← hw5]
  clear hw5
  generalize w4.heap.size = X at *
  have k3 := Lib.hid (posts_B P3 (by decide) (by decide))
  rw [st3] at k3
  go_upto_region 10 with (go_at_call 14; (with_reducible refine k3.out.mono ?_); rintro e w6 ⟨A2, cap2, rfl, Q2, P4, G3⟩; obtain ⟨g2, o2, rfl, _, l2, d2⟩ := Q2.get (by decide); obtain ⟨y0, y1, y2, y3, y4⟩ := d2 0 _ rfl; obtain ⟨v0, v1, v2, v3, v4⟩ := d2 1 _ rfl; haveI : InW g2 w6 := ⟨l2⟩; simp only [Nat.zero_mul, Nat.one_mul, Nat.add_zero, Nat.add_assoc, Nat.reduceAdd] at y0 y1 y2 y3 y4 v0 v1 v2 v3 v4)
  have X2 := X1.chg G3 x2
  obtain ⟨xl, xh0, xh1, xh2, xhf⟩ := id X2
  haveI : InW X w6 := ⟨xl⟩
  replace xhf := Lib.hid xhf
  have k4 := Lib.hid (hear_A P4 ⟨5, 1, 0, 0, ⟨#[]⟩⟩ (by decide) (by decide) (by decide))
  rw [st4] at k4
  go_upto_region 13 with (go_at_call 12; (with_reducible refine k4.out.mono ?_); rintro e w7 ⟨rfl, P5, G4⟩)
  have Q3 := Q2.chA G4
  have X3 := X2.chg G4 x1
  have x1' : ¬ Grown S1 w6 w7 X := fun h => h.elim x1 (fun hn => by omega)
  obtain ⟨T1, hT1⟩ : ∃ T, T = Grown S1 w6 w7 := ⟨_, rfl⟩
  rw [← hT1] at P5 Q3 x1'
  clear hT1
  clear y0 y1 y2 y3 y4 v0 v1 v2 v3 v4 d2
  obtain ⟨g, o, he, _, l3, d3⟩ := Q3.get (by decide)
  cases he
  obtain ⟨v0, v1, v2, v3, v4⟩ := d3 1 _ rfl
  haveI : InW g2 w7 := ⟨l3⟩
  simp only [Nat.one_mul, Nat.add_zero, Nat.add_assoc, Nat.reduceAdd] at v0 v1 v2 v3 v4
  clear d3
  have k5 := Lib.hid (hear_A P5 ⟨5, 0, 0, 0, ⟨#[]⟩⟩ (by decide) (by decide) (by decide))
  rw [st5] at k5
  go_upto_region 14 with (go_at_call 12; (with_reducible refine k5.out.mono ?_); rintro e w8 ⟨rfl, P6, G5⟩)
  clear v0 v1 v2 v3 v4
  have X4 := X3.chg G5 x1'
  have x1'' : ¬ Grown T1 w7 w8 X := fun h => h.elim x1' (fun hn => by have := X3.lt; omega)
  obtain ⟨U1, hU1⟩ : ∃ T, T = Grown T1 w7 w8 := ⟨_, rfl⟩
  rw [← hU1] at P6 x1''
  clear hU1
  have P7 := P6.alloc (.cells #[.string txX] 9)
  have X5 : HdAt (w8.alloc (.cells #[.string txX] 9)) X ⟨⟨#[]⟩, false, true⟩ := X4.chg (Chg.of_alloc w8 _ fun _ => False) (fun h => h)
  have k6 := say_A P7 (some ⟨w8.heap.size, 0, none⟩) 1 [txX] (by decide) (by decide) (fun _ => ⟨w8.heap.size, 0, rfl, by simp [go_sem], fun i j hi hj => by
    obtain rfl : i = 0 := by simp at hi; omega
    obtain rfl : j = 0 := by omega
    simp [go_sem, strAt]⟩)
  rw [st6, st6c, show [txX].length = 1 from rfl] at k6
  have k6' := Lib.hid k6
  clear k6
  go_upto_region 15 with (go_at_call 13; (with_reducible refine k6'.out.mono ?_); rintro e w9 ⟨rfl, P8, G6⟩)
  have X6 := X5.chg G6 x1''
  have x1b : ¬ Grown U1 (w8.alloc (.cells #[.string txX] 9)) w9 X := fun h => h.elim x1'' (fun hn => by have := X5.lt; omega)
  obtain ⟨V1, hV1⟩ : ∃ T, T = Grown U1 (w8.alloc (.cells #[.string txX] 9)) w9 := ⟨_, rfl⟩
  rw [← hV1] at P8 x1b
  clear hV1 P7 X5
  have k7 := Lib.hid (posts_A P8 (by decide) (by decide))
  rw [st7] at k7
  go_upto_region 18 with (go_at_call 14; (with_reducible refine k7.out.mono ?_); rintro e w10 ⟨A3, cap3, rfl, Q4, P9, G7⟩; obtain ⟨g3, o3, rfl, _, l4, d4⟩ := Q4.get (by decide); obtain ⟨z0, z1, z2, z3, z4⟩ := d4 0 _ rfl; haveI : InW g3 w10 := ⟨l4⟩; simp only [Nat.zero_mul, Nat.add_zero] at z0 z1 z2 z3 z4)
  have X7 := X6.chg G7 x1b
  have k8 := Lib.hid (hear_B P9 ⟨1, 5, 0, 1, txX⟩ (by decide) (by decide) (by decide))
  rw [st8] at k8
  have X8' : ∀ w', Chg w10 w' T2 → HdAt w' X ⟨⟨#[]⟩, false, true⟩ := fun w' h => X7.chg h x2
  replace X8' := Lib.hid X8'
  go_upto_region 19 with (go_at_call 12; (with_reducible refine k8.out.mono ?_); rintro e w11 ⟨rfl, P10, G8⟩; have X8 := X8'.out _ G8; obtain ⟨xl2, xb0, xb1, xb2, xbf⟩ := id X8; haveI : InW X w11 := ⟨xl2⟩; have xf0 := xbf 0; have xf1 := xbf 1; have xf2 := xbf 2; replace xbf := Lib.hid xbf)
  have hg8 := Chg.of_setCell
  have x2b : ¬ Grown T2 w10 w11 X := fun h => h.elim x2 (fun hn => by have := X7.lt; omega)
  obtain ⟨U2, hU2⟩ : ∃ T, T = Grown T2 w10 w11 := ⟨_, rfl⟩
  rw [← hU2] at P10 x2b
  clear hU2 hg8
  have F1 : Chg w11 (((w11.setCell ⟨X, 0, none⟩ (.string txX)).setCell ⟨X, 1, none⟩ (.bool true)).setCell ⟨X, 2, none⟩ (.bool false)) (fun k => k = X) := ((Chg.of_setCell w11 ⟨X, 0, none⟩ _ (fun k => k = X) rfl).setCell _ _ (.inl rfl)).setCell _ _ (.inl rfl)
  have P11 := P10.far F1 (fun k hk h => x1b (hk ▸ h)) (fun k hk h => x2b (hk ▸ h)) (fun k hk => by rw [hk]; exact x3)
  have X9 := X8.set ⟨txX, true, false⟩
  obtain ⟨w12, hw12⟩ : ∃ w12, w12 = ((w11.setCell ⟨X, 0, none⟩ (.string txX)).setCell ⟨X, 1, none⟩ (.bool true)).setCell ⟨X, 2, none⟩ (.bool false) := ⟨_, rfl⟩
  simp only [← hw12] at P11 X9
  rw [← hw12]
  clear hw12 F1 xb0 xb1 xb2 xf0 xf1 xf2 z0 z1 z2 z3 z4
  have k9 := Lib.hid (posts_B P11 (by decide) (by decide))
  rw [st9] at k9
  have X9' : ∀ w', Chg w12 w' U2 → HdAt w' X ⟨txX, true, false⟩ := fun w' h => X9.chg h x2b
  replace X9' := Lib.hid X9'
  go_upto_region 22 with (go_at_call 14; (with_reducible refine k9.out.mono ?_); rintro e w13 ⟨A4, cap4, rfl, Q5, P12, G9⟩; have X10 := X9'.out _ G9; obtain ⟨xl3, xb0, xb1, xb2, xbf⟩ := id X10; haveI : InW X w13 := ⟨xl3⟩; replace xbf := Lib.hid xbf; obtain ⟨g4, o4, rfl, _, l5, d5⟩ := Q5.get (by decide); obtain ⟨z0, z1, z2, z3, z4⟩ := d5 0 _ rfl; haveI : InW g4 w13 := ⟨l5⟩; simp only [Nat.zero_mul, Nat.add_zero] at z0 z1 z2 z3 z4)
  have k10 := Lib.hid (hear_A P12 ⟨5, 1, 1, 0, ⟨#[]⟩⟩ (by decide) (by decide) (by decide))
  rw [st10] at k10
  go_upto_region 23 with (go_at_call 12; (with_reducible refine k10.out.mono ?_); rintro e w14 ⟨rfl, P13, G10⟩)
  have k11 := Lib.hid (waiting_any w14 N1 xA5 _ P13.a (by decide))
  simp only [List.length_nil] at k11
  have k12 := Lib.hid (fun x => posts_A (P13.plus x) (by decide) (by decide))
  rw [st11] at k12
  simp only [PoA, List.length_nil] at k12
  go_wp2_with (first
    | (go_at_call 16; (with_reducible refine k11.out.mono ?_); rintro e w15 ⟨rfl, ex, rfl⟩)
    | (go_at_call 14; (with_reducible refine (k12.out _).mono ?_); rintro e w16 ⟨A6, cap6, rfl, Q6, P14, G11⟩; have k13 := Lib.hid (posts_B P14 (by decide) (by decide)); rw [st12] at k13; simp only [PoB, List.length_nil] at k13)
    | (go_at_call 14; (with_reducible refine k13.out.mono ?_); rintro e w17 ⟨A7, cap7, rfl, Q7, P15, G12⟩))
  go_ret
  exact ⟨rfl, P15.p⟩
end Go.Proofs.Ytpmebmbibajcoaa
