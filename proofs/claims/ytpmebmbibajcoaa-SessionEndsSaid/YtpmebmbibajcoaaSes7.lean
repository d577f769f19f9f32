/- session: Posts: walk. -/
import Derived.Test.YtpmebmbibajcoaaSes6
import Derived.Deep.CutBlock
set_option linter.unusedSimpArgs false
set_option linter.unusedVariables false
namespace Go.Proofs.Ytpmebmbibajcoaa
open Go.RowKit
theorem posts_end {w : World} {N : Nat} {c : Ch} {S : Nat → Prop} {e3 : Ext} {A : Option Addr} {cap B : Nat} {l : List Post} (hh : ChAt w N c S) (hsl : Sl (w.plus e3) 5 (.slice A l.length cap) l.length (postCs l))
    (hog : ∀ g, (Value.slice A l.length cap).ownBlock = some g → w.heap.size ≤ g ∧ g ≠ B) :
    PostsPost w N S { c with owes := false } l (.returned (.slice A l.length cap)) ((w.setCell ⟨N, 6, none⟩ (.bool false)).plus e3) := by
  haveI : InW N w := ⟨hh.lt⟩
  rw [← World.setCell_plus]
  have hN : ∀ g, (Value.slice A l.length cap).ownBlock = some g → ¬ S g := fun g hg h => by have := (hog g hg).1; have := hh.sub g h; omega
  exact ⟨A, cap, rfl, hsl.chg (Chg.of_setCell _ _ _ (fun k => k = N) rfl) (fun g hg e => hN g hg (by rw [e]; exact hh.own)), fun g hg => ⟨(hog g hg).1, hN g hg⟩, (hh.plus e3).set6 false, (Chg.of_plus w e3 S).setCell ⟨N, 6, none⟩ _ (.inl hh.own)⟩
theorem own_next {w wx : World} {v v2 : Value} {B : Nat} (hog : ∀ g, v.ownBlock = some g → w.heap.size ≤ g ∧ g ≠ B) (ho2 : v2.ownBlock = v.ownBlock ∨ v2.ownBlock = some wx.heap.size) (h1 : w.heap.size ≤ wx.heap.size) (h2 : B < wx.heap.size) : ∀ g, v2.ownBlock = some g → w.heap.size ≤ g ∧ g ≠ B := fun g hg => by
  rcases ho2 with h | h
  · rw [h] at hg; exact hog g hg
  · rw [h] at hg
    have := Option.some.inj hg
    omega
set_option maxRecDepth 100000 in
set_option maxHeartbeats 2000000 in
theorem posts_any (w : World) (N : Nat) (c : Ch) (S : Nat → Prop) (h : ChAt w N c S) (hf1 : 0 ≤ c.first ∧ c.first ≤ 1000000000000000) (hw1 : c.wait.length ≤ 1000000) :
    Calls Try.prog 14 #[chV N] w (PostsPost w N S { c with owes := false } (postsL c)) := by
  obtain ⟨i0, hi0, hz0, hz1, hz2⟩ := info_parts infoPost
  have hh := Lib.hid h
  obtain ⟨lt, sub, own, c0, c1, c2, c4, c5, c6, hf, A0, cap0, c3, hs, hg⟩ := h
  haveI : InW N w := ⟨lt⟩
  replace hs := Lib.hid hs
  replace hg := Lib.hid hg
  replace sub := Lib.hid sub
  replace hf := Lib.hid hf
  go_enter Try.func14, Try.ntmps14
  go_upto_region 3 with fail
  go_cut [3] (fun s3 wx => ∃ B, s3 = .pointer (some ⟨B, 0, none⟩) ∧ w.heap.size ≤ B ∧ PostAt wx B (bareP c) ∧ w.Plus wx)
  case first =>
    go_region_held3 (fun w' => w'.cell? ⟨N, 0, none⟩ = some (.int .i64 c.mine) ∧ w'.cell? ⟨N, 1, none⟩ = some (.int .i64 c.yours) ∧ w'.cell? ⟨N, 4, none⟩ = some (.int .i64 c.last)) (simp [go_sem, *]) (fail)
    all_goals (go_wp2_with fail; go_meet)
    all_goals
      refine ⟨_, rfl, Nat.le_refl _, ?_, by (repeat (first | exact Plus.refl _ | apply Plus.plus | apply Plus.alloc | apply Plus.drew))⟩
      repeat (first | apply PostAt.plus | apply PostAt.drew)
      exact PostAt.new _ (bareP c) rfl
  obtain ⟨B, rfl, hB, hb, e1, rfl⟩ := hcut
  have hcl := hs.out.le
  obtain ⟨K, hK⟩ : ∃ K, K = min c.wait.length 8 := ⟨_, rfl⟩
  have hKi : min (c.wait.length : Int) 8 = (K : Int) := by omega
  have hK1 : K ≤ c.wait.length ∧ K ≤ 8 := by omega
  have hK2 : K ≤ cap0 := by omega
  replace hK := Lib.hid hK
  go_upto_region 5 with fail
  go_cut [33, 34, 35] (fun s33 s34 s35 wx => s33 = .slice A0 K cap0 ∧ s34 = .int .i64 K ∧ s35 = .int .i64 0 ∧ PostAt wx B (bareP c) ∧ w.Plus wx)
  case first =>
    refine wp_region_grow (by kernel_rfl) (by kernel_rfl) ?_
    repeat (go_big_quiet_step (fail))
    refine wpQuiet_nil ?_
    intro ex
    go_wp2_with fail
    go_meet
    refine ⟨rfl, rfl, rfl, ?_, by (repeat (first | exact Plus.refl _ | apply Plus.plus | apply Plus.alloc | apply Plus.drew))⟩
    exact hb.plus _
  obtain ⟨rfl, rfl, rfl, hb2, hp2⟩ := hcut
  clear hb
  obtain ⟨L, hL⟩ : ∃ L, L = textPs c (postK c) := ⟨_, rfl⟩
  have hLl : L.length = postK c := by rw [hL, textPs_length]
  have hpK : postK c = if c.yours = 0 then 0 else K := by rw [hK.out]; rfl
  replace hL := Lib.hid hL
  replace hLl := Lib.hid hLl
  replace hpK := Lib.hid hpK
  have hrow := Lib.hid (hs.out.rows rfl (strAt c.wait) (fun i j hi hj => by
    obtain rfl : j = 0 := by omega
    simp [strAt, List.getD_eq_getElem?_getD, List.getElem?_eq_getElem hi]))
  go_upto_block 0 with fail
  go_cut [4] (fun v wx => ∃ A cap, v = .slice A L.length cap ∧ Sl wx 5 (.slice A L.length cap) L.length (postCs L) ∧ (∀ g, (Value.slice A L.length cap).ownBlock = some g → w.heap.size ≤ g ∧ g ≠ B) ∧ PostAt wx B (bareP c) ∧ w.Plus wx)
  case first =>
    go_wp2_with fail
    go_loopw [4, 5, 6, 7, 35] (fun v x y z i wr => ∃ (k : Nat) (A : Option Addr) (cap : Nat), k ≤ K ∧ (k = 0 ∨ c.yours ≠ 0) ∧ i = .int .i64 k ∧ v = .slice A k cap ∧ Sl wr 5 (.slice A k cap) k (postCs (textPs c k)) ∧ (∀ g, (Value.slice A k cap).ownBlock = some g → w.heap.size ≤ g ∧ g ≠ B) ∧ PostAt wr B (bareP c) ∧ w.Plus wr) (fun _ _ _ _ i _ => K - (intOf i).toNat)
    case atStart => exact ⟨0, none, 0, Nat.zero_le _, .inl rfl, rfl, rfl, Sl.nil _ _, (fun g hg => by cases hg), hb2, hp2⟩
    case round =>
      clear hb2 hp2
      obtain ⟨k, A, cap, hk, hky, rfl, rfl, hsl, hog, hbr, e3, rfl⟩ := hrel
      obtain ⟨ltB, b0, b1, b2, b3, b4, hB'⟩ := id hbr
      haveI : InW B (w.plus e3) := ⟨ltB⟩
      replace hsl := Lib.hid hsl
      replace hog := Lib.hid hog
      replace hbr := Lib.hid hbr
      replace hB' := Lib.hid hB'
      dsimp only [bareP] at b0 b1 b2 b3 b4
      by_cases hlt : k < K
      · obtain ⟨b, o, rfl, hbl, hc⟩ := hrow.out (by omega)
        have d1 := hc k 0 (by omega) (by omega)
        clear hc
        haveI : InW b w := ⟨hbl⟩
        unfold strAt at d1
        simp only [Nat.mul_one, Nat.add_zero] at d1
        have htx : textP c k = ⟨c.mine, c.yours, c.last, c.first + k, c.wait.getD k ⟨#[]⟩⟩ := rfl
        generalize c.wait.getD k ⟨#[]⟩ = x at *
        replace htx := Lib.hid htx
        by_cases hy : c.yours = 0
        · obtain rfl : k = 0 := by omega
          simp only [Nat.add_zero] at d1
          have hLK : L = textPs c 0 := by rw [hL.out, hpK.out, if_pos hy]
          have hlen : L.length = 0 := by rw [hLK, textPs_length]
          replace hLK := Lib.hid hLK
          replace hlen := Lib.hid hlen
          go_wp2_with fail
          go_meet
          exact ⟨A, cap, by rw [hlen.out], by rw [hlen.out, hLK.out]; exact hsl.out, by rw [hlen.out]; exact hog.out, hbr.out, by (repeat (first | exact Plus.refl _ | apply Plus.plus | apply Plus.alloc | apply Plus.drew))⟩
        · have hyb : (c.yours == 0) = false := by rw [beq_eq_false_iff_ne]; exact hy
          replace hky := Lib.hid hky
          have hkb : k ≤ 8 := by omega
          go_wp2_with (at_builtin; refine wpList_append_sl rfl _ _ 34 34 rfl 32 i0 _ 5 48 underPosts hi0 hz0 hz1 hz2 rfl rfl (hsl.out.chg (((Chg.refl (w.plus e3) (fun _ => False)).alloc _).alloc _) (fun _ _ h => h)) rfl (src_cells _ _ _ _ _ _ (by simp [go_sem])) (by unfold maxLen; omega) (by omega) ?_; intro A2 cap2 w2 hs2 hch2 ho2 hm2)
          have hd3 : Chg (w.plus e3) _ (fun _ => False) := ((Chg.refl (w.plus e3) (fun _ => False)).alloc (.cells #[.int .i64 c.mine, .int .i64 c.yours, .int .i64 c.last, .int .i64 (c.first + k), .string x] 32)).alloc (.cells #[.int .i64 c.mine, .int .i64 c.yours, .int .i64 c.last, .int .i64 (c.first + k), .string x] 32)
          have hnx : postCs (textPs c k) ++ [.int .i64 c.mine, .int .i64 c.yours, .int .i64 c.last, .int .i64 (c.first + k), .string x] = postCs (textPs c (k + 1)) := by
            rw [textPs_succ, postCs_append, htx.out]; rfl
          rw [hnx] at hs2
          have hog2 : ∀ g, (Value.slice A2 (k + 1) cap2).ownBlock = some g → w.heap.size ≤ g ∧ g ≠ B := fun g hg => by
            rcases ho2 with h | h
            · rw [h] at hg; exact hog.out g hg
            · rw [h] at hg
              have := Option.some.inj hg
              simp [go_sem] at this ltB
              omega
          have hbr2 := (hbr.out.chg hd3 (fun h => h)).chg hch2 (fun h => (hog.out B h).2 rfl)
          have hp3 := hch2.toPlus (W := w) (by (repeat (first | exact Plus.refl _ | apply Plus.plus | apply Plus.alloc | apply Plus.drew))) (fun g hg => (hog.out g hg).1)
          go_roundw
          case rel => exact ⟨k + 1, A2, cap2, hlt, .inr hy, by go_num, rfl, hs2, hog2, hbr2, hp3⟩
          case measure => simp [intOf]; omega
      · obtain rfl : k = K := by omega
        have hLK : L = textPs c k := by
          rw [hL.out, hpK.out]
          by_cases hy : c.yours = 0
          · rw [if_pos hy, show k = 0 by omega]
          · rw [if_neg hy]
        have hlen : L.length = k := by rw [hLK, textPs_length]
        replace hLK := Lib.hid hLK
        replace hlen := Lib.hid hlen
        go_wp2_with fail
        go_meet
        exact ⟨A, cap, by rw [hlen.out], by rw [hlen.out, hLK.out]; exact hsl.out, by rw [hlen.out]; exact hog.out, hbr.out, by (repeat (first | exact Plus.refl _ | apply Plus.plus | apply Plus.alloc | apply Plus.drew))⟩
  obtain ⟨A, cap, rfl, hsl, hog, hbr, e3, rfl⟩ := hcut
  clear hb2 hp2
  obtain ⟨ltB, b0, b1, b2, b3, b4, hB'⟩ := id hbr
  haveI : InW B (w.plus e3) := ⟨ltB⟩
  have n1 := hB' 1
  replace hsl := Lib.hid hsl
  replace hog := Lib.hid hog
  replace hbr := Lib.hid hbr
  replace hB' := Lib.hid hB'
  dsimp only [bareP] at b0 b1 b2 b3 b4
  have hNB : ¬ N = B := by omega
  have hBN : ¬ B = N := by omega
  have f6 := hf.out 6
  by_cases h0 : postK c = 0
  · have hL0 : L.length = 0 := by rw [hLl.out]; exact h0
    have hLn : L = [] := List.eq_nil_of_length_eq_zero hL0
    have hP : postsL c = (if c.owes then [bareP c] else []) ++ (if c.met then [] else [{ bareP c with yours := 0 }]) := by unfold postsL; rw [if_pos h0]
    replace hP := Lib.hid hP
    replace h0 := Lib.hid h0
    subst hLn
    clear hL0
    replace hLl := Lib.hid trivial
    replace hL := Lib.hid trivial
    obtain ⟨l1, hl1⟩ : ∃ l1, l1 = (if c.owes then [bareP c] else []) := ⟨_, rfl⟩
    have hl1z : l1.length ≤ 1 := by rw [hl1]; split <;> simp
    rw [← hl1] at hP
    replace hl1 := Lib.hid hl1
    go_upto_if 66 with (fail)
    go_cut [4] (fun v wx => ∃ A cap, v = .slice A l1.length cap ∧ Sl wx 5 (.slice A l1.length cap) l1.length (postCs l1) ∧ (∀ g, (Value.slice A l1.length cap).ownBlock = some g → w.heap.size ≤ g ∧ g ≠ B) ∧ PostAt wx B (bareP c) ∧ w.Plus wx)
    case first =>
      cases hco : c.owes with
      | false =>
        have hE := Lib.hid (show l1 = [] by rw [hl1.out, hco]; rfl)
        rw [hco] at c6
        replace hco := Lib.hid hco
        go_wp2_with fail
        go_meet
        rw [hE.out]
        exact ⟨A, cap, rfl, hsl.out, hog.out, hbr.out, by (repeat (first | exact Plus.refl _ | apply Plus.plus | apply Plus.alloc | apply Plus.drew))⟩
      | true =>
        have hE := Lib.hid (show l1 = [bareP c] by rw [hl1.out, hco]; rfl)
        rw [hco] at c6
        replace hco := Lib.hid hco
        go_wp2_with (at_builtin; refine wpList_append_sl rfl _ _ 34 34 rfl 32 i0 _ 5 48 underPosts hi0 hz0 hz1 hz2 rfl rfl (hsl.out.chg ((Chg.refl (w.plus e3) (fun _ => False)).alloc _) (fun _ _ h => h)) rfl (src_cells _ _ _ _ _ _ (by simp [go_sem])) (by unfold maxLen; simp) (by simp) ?_; intro A2 cap2 w2 hs2 hch2 ho2 hm2)
        go_meet
        rw [hE.out]
        refine ⟨A2, cap2, rfl, hs2, own_next hog.out ho2 (by simp [go_sem]; omega) (by simp [go_sem] at ltB ⊢; omega), (hbr.out.alloc _).chg hch2 (fun h => (hog.out B h).2 rfl), hch2.toPlus (W := w) (by (repeat (first | exact Plus.refl _ | apply Plus.plus | apply Plus.alloc | apply Plus.drew))) (fun g hg => (hog.out g hg).1)⟩
    clear ltB b0 b1 b2 b3 b4 hB' n1 hbr hog hsl
    obtain ⟨A, cap, rfl, hsl, hog, hbr, e4, rfl⟩ := hcut
    obtain ⟨ltB, b0, b1, b2, b3, b4, hB'⟩ := id hbr
    haveI : InW B (w.plus e4) := ⟨ltB⟩
    have n1 := hB' 1
    replace hsl := Lib.hid hsl
    replace hog := Lib.hid hog
    replace hbr := Lib.hid hbr
    replace hB' := Lib.hid hB'
    dsimp only [bareP] at b0 b1 b2 b3 b4
    cases hcm : c.met with
    | true =>
      have hE := Lib.hid (show postsL c = l1 by rw [hP.out, hcm]; simp)
      rw [hcm] at c5
      replace hcm := Lib.hid hcm
      go_wp2_with fail
      go_ret
      rw [hE.out]
      exact posts_end hh.out hsl.out hog.out
    | false =>
      have hE := Lib.hid (show postsL c = l1 ++ [{ bareP c with yours := 0 }] by rw [hP.out, hcm]; simp)
      rw [hcm] at c5
      replace hcm := Lib.hid hcm
      have hpB := Lib.hid ((Chg.of_setCell (w.plus e4) ⟨B, 1, none⟩ (.int .i64 0) (fun k => k = B) rfl).toPlus (W := w) (by (repeat (first | exact Plus.refl _ | apply Plus.plus | apply Plus.alloc | apply Plus.drew))) (fun k hk => by rw [hk]; exact hB))
      go_wp2_with (at_builtin; refine wpList_append_sl rfl _ _ 34 34 rfl 32 i0 _ 5 48 underPosts hi0 hz0 hz1 hz2 rfl rfl (hsl.out.chg ((Chg.of_setCell (w.plus e4) ⟨B, 1, none⟩ (.int .i64 0) (fun k => k = B) rfl).alloc _) (fun g hg e => (hog.out g hg).2 e)) rfl (src_cells _ _ _ _ _ _ (by simp [go_sem])) (by unfold maxLen; omega) (by omega) ?_; intro A2 cap2 w2 hs2 hch2 ho2 hm2; obtain ⟨e5, rfl⟩ := hch2.toPlus (W := w) (Plus.alloc hpB.out _) (fun g hg => (hog.out g hg).1))
      go_ret
      rw [hE.out]
      have hog2 := own_next hog.out ho2 (by simp [go_sem]; omega) (by simp [go_sem] at ltB ⊢; omega)
      have hlen : (l1 ++ [({ bareP c with yours := 0 } : Post)]).length = l1.length + 1 := by simp
      have hcs : postCs l1 ++ [.int .i64 c.mine, .int .i64 0, .int .i64 c.last, .int .i64 0, .string ⟨#[]⟩] = postCs (l1 ++ [({ bareP c with yours := 0 } : Post)]) := by rw [postCs_append]; rfl
      rw [hcs] at hs2
      rw [← hlen] at hs2 hog2 ⊢
      exact posts_end hh.out hs2 hog2
  · have hP : postsL c = L := by rw [hL.out]; unfold postsL; rw [if_neg h0]
    have hl0 : ((L.length : Int) == 0) = false := by rw [hLl.out, beq_eq_false_iff_ne]; omega
    have hl1 : ¬ L.length = 0 := by rw [hLl.out]; exact h0
    have hl2 : (L.length == 0) = false := by rw [beq_eq_false_iff_ne]; exact hl1
    replace hP := Lib.hid hP
    replace hl1 := Lib.hid hl1
    go_wp2_with fail
    go_ret
    rw [hP.out]
    exact posts_end hh.out hsl.out hog.out
end Go.Proofs.Ytpmebmbibajcoaa
