/- SessionRoom: walk. -/
import Derived.Test.YtpmebmbibajcoaaSesB
set_option linter.unusedSimpArgs false
set_option linter.unusedVariables false
namespace Go.Proofs.Ytpmebmbibajcoaa
open Go.RowKit
theorem Chg.of_grownBy {w w' : World} {row : Option Nat} (h : w.grownBy w' row) : Chg w w' (fun k => some k = row) := ⟨h.os, h.tape, h.output, h.size, fun k hk hn => h.block k hk hn⟩
theorem infoU8 : (Try.prog.info? 5).map (fun i => (i.zero, i.size, i.bytes)) = some (some (.int .u8 0), 1, 1) := by kernel_rfl
theorem underU8s : Try.prog.underlying 41 = some (.slice 5) := by kernel_rfl
theorem conv_all (l : List UInt8) (w : World) (base : Nat) (v : Value) (hl0 : l ≠ []) (hown : w.ownsRow base 5 1 v l.length (l.map u8v)) :
    (convert 41 9 v).run Try.prog w = .ok (.string (txt l)) w := by
  have hcells : ∀ g, v.ownBlock = some g → ∀ j u, (l.map u8v)[j]? = some u → w.cell? ((⟨g, 0, none⟩ : Addr).add j) = some u := fun g hg => hown.cells hg
  rcases hown with ⟨hl, ⟨rfl, h0⟩ | ⟨g, cap, cur, rfl, hb, hc, hr⟩⟩
  · exact absurd (by simpa using h0) hl0
  · exact run_convert_bytes_back (P := Try.prog) w 41 9 5 ⟨g, 0, none⟩ cap l (by kernel_rfl) (by kernel_rfl) (by kernel_rfl)
      (fun j hj => hcells g rfl j _ (by simp [hj]))
abbrev emp (k : Nat) : List ByteArray := List.replicate k ⟨#[]⟩
theorem emp_rows {w : World} {g k cap : Nat} (base : Nat) (h : w.ownsRow base 9 1 (.slice (some ⟨g, 0, none⟩) k cap) k (madeCells (Value.string ⟨#[]⟩).cells (k * 1)).toList) : RowsAt w (some ⟨g, 0, none⟩) 1 k (strAt (emp k)) := by
  obtain ⟨A, c, he, hr⟩ := h.rows (strAt (emp k)) (fun i hi => by
    show (madeCells #[.string ⟨#[]⟩] (k * 1)).toList[i]? = _
    rw [toList_madeCells_one, Nat.mul_one]
    simp [strAt, emp, hi, List.getD_eq_getElem?_getD])
  cases he
  exact hr
theorem emp_any (k : Nat) : (emp k).any longB = false := by
  rw [List.any_eq_false]
  intro x hx
  rw [(List.mem_replicate.1 hx).2]
  decide
theorem rem9 (n : Int) : ∃ (t : Int) (m : Nat), n.tmod 9 = t ∧ wrap64 (t + 9) = t + 9 ∧ IntKind.i64.wrap (t + 9) = t + 9 ∧ (t + 9).tmod 9 = (m : Int) ∧ m < 9 ∧ -9 < t ∧ t < 9 := by
  have h1 := Int.emod_nonneg n (show (9 : Int) ≠ 0 by decide)
  have h2 := Int.tmod_lt_of_pos n (show (0 : Int) < 9 by decide)
  have h3 : -9 < n.tmod 9 := by
    have := Int.tmod_lt_of_pos (-n) (show (0 : Int) < 9 by decide)
    rw [Int.neg_tmod] at this
    omega
  refine ⟨n.tmod 9, ((n.tmod 9 + 9) % 9).toNat, rfl, w64_id (by omega) (by omega), wrap_id (by omega) (by omega), ?_, by omega, h3, h2⟩
  rw [Int.tmod_eq_emod_of_nonneg (by omega)]
  omega
theorem zero_text (w : World) (base g : Nat) (h : w.ownsRow base 5 1 (.slice (some ⟨g, 0, none⟩) 65473 65473) 65473 (madeCells (Value.int .u8 0).cells (65473 * 1)).toList) :
    ∃ Z : ByteArray, longB Z = true ∧ (convert 41 9 (.slice (some ⟨g, 0, none⟩) 65473 65473)).run Try.prog w = .ok (.string Z) w := by
  refine ⟨txt (List.replicate 65473 0), ?_, conv_all (List.replicate 65473 0) w base _ ?_ ?_⟩
  · unfold longB
    rw [txt_size, List.length_replicate]
    decide
  · intro e
    have := congrArg List.length e
    rw [List.length_replicate] at this
    cases this
  · have e1 : (madeCells (Value.int .u8 0).cells (65473 * 1)).toList = (List.replicate 65473 (0 : UInt8)).map u8v := by
      show (madeCells #[.int .u8 0] (65473 * 1)).toList = _
      rw [toList_madeCells_one, List.map_replicate]
      rfl
    rw [e1] at h
    rw [List.length_replicate]
    exact h
def Two2 (w3 : World) (N : Nat) (c : Ch) (S : Nat → Prop) (e : Ending) (w' : World) : Prop := e = .returned (.int .i64 1) ∧ ChAt w' N c (Grown S w3 w') ∧ Chg w3 w' S
theorem say_two {w3 w4 : World} {N : Nat} {c : Ch} {S : Nat → Prop} (hc : ChAt w3 N c S) (hg : w3.grownBy w4 none) (Z : ByteArray) (hZ : longB Z = true) (hl : c.wait.length ≤ 1024 := by (first | simp | decide)) :
    Calls Try.prog 13 #[chV N, .slice (some ⟨w4.heap.size, 0, none⟩) 2 2] (w4.alloc (.cells #[.string ⟨#[120]⟩, .string Z] 9)) (Two2 w3 N c S) := by
  have h34 := Chg.of_grownBy hg
  have c4 := hc.chg h34 (fun k hk e => by cases e)
  have c5 := c4.chg (Chg.of_alloc w4 (.cells #[.string ⟨#[120]⟩, .string Z] 9) fun _ => False) (fun _ _ h => h)
  have hE : sayE c [⟨#[120]⟩, Z] = 1 := by unfold sayE; rw [if_pos (by simp [hZ])]
  have hC : sayC c [⟨#[120]⟩, Z] = c := by unfold sayC; rw [hE]; rfl
  have k := say_any _ N c S (some ⟨w4.heap.size, 0, none⟩) 2 [⟨#[120]⟩, Z] c5 (by simp) hl (fun _ => ⟨w4.heap.size, 0, rfl, by simp [go_sem], fun i j hi hj => by
    obtain rfl : j = 0 := by omega
    have h2 : i = 0 ∨ i = 1 := by simp at hi; omega
    rcases h2 with rfl | rfl <;> simp [go_sem, strAt]⟩)
  rw [hE, hC] at k
  refine k.mono fun e w' hp => ?_
  obtain ⟨h1, h2, h3⟩ := hp
  have h35 : Chg w3 (w4.alloc (.cells #[.string ⟨#[120]⟩, .string Z] 9)) S := (h34.mono (fun k e => by cases e)).alloc _
  have hsz : w3.heap.size ≤ (w4.alloc (.cells #[.string ⟨#[120]⟩, .string Z] 9)).heap.size := h35.size
  exact ⟨h1, h2.more (fun k hk => hk.elim .inl fun h => .inr ⟨by omega, h.2⟩) (fun k hk => hk.elim (fun h => h2.sub k (.inl h)) fun h => h.2), h35.trans h3 (fun k h _ => h)⟩
set_option maxRecDepth 100000 in
set_option maxHeartbeats 1000000 in
theorem room_any (n : Int) (w : World) : Calls Try.prog 5 #[.int .i64 n] w fun e w' => e = .returned (.bool true) ∧ w.Plus w' := by
  have hN1 := Lib.hid (fun w => new_E w 1 (by decide))
  obtain ⟨i0, hi0, hz0, hz1, hz2⟩ := info_parts infoStr
  obtain ⟨j0, hj0, hy0, hy1, hy2⟩ := info_parts infoU8
  obtain ⟨t, m, r1, r2, r3, r4, hm, ht1, ht2⟩ := rem9 n
  go_enter Try.func5, Try.ntmps5
  go_upto_region 6 with (first | (go_at_call 11; (with_reducible refine (hN1.out _).mono ?_); rintro e w1 ⟨N1, rfl, hn1, ha, hp1⟩) | (at_make; refine wpList_make_full _ rfl _ _ 22 rfl w.heap.size 9 i0 (.string ⟨#[]⟩) 1 underStrs hi0 hz0 hz1 .i64 .i64 1020 1020 1020 rfl rfl rfl rfl (by omega) (by decide) (Plus.below hp1).size ?_; intro w2 ho2 hg2))
  have hrow := emp_rows w.heap.size ho2
  have hc2 := ha.chg (Chg.of_grownBy hg2) (fun k hk e => by cases e)
  have hp2 : w.Plus w2 := (Chg.of_grownBy hg2).toPlus hp1 (fun k e => by cases e)
  have hL : ¬ w1.heap.size = N1 := by have := ha.lt; omega
  have hLw := (Plus.below hp1).size
  have hLt : w1.heap.size < w2.heap.size := (ho2.lt _ rfl).2
  clear ho2 hg2 ha hp1
  generalize w1.heap.size = L at *
  obtain ⟨S, hS⟩ : ∃ S : Nat → Prop, S = fun k => k = N1 := ⟨_, rfl⟩
  rw [← hS] at hc2
  have hSL : ¬ S L := fun h => hL (by rw [hS] at h; exact h)
  have hSw : ∀ k, S k → w.heap.size ≤ k := fun k h => by rw [hS] at h; rw [h]; exact hn1
  clear hS
  have hE1 : sayE ⟨1, 0, 1, [], 0, false, false⟩ (emp 1020) = 0 := by unfold sayE; rw [if_neg (by rw [emp_any]; simp), if_neg (by simp)]
  have hC1 : sayC ⟨1, 0, 1, [], 0, false, false⟩ (emp 1020) = ⟨1, 0, 1, emp 1020, 0, false, false⟩ := by unfold sayC; rw [if_pos hE1, List.nil_append]
  have k1 := say_any w2 N1 _ S (some ⟨L, 0, none⟩) 1020 (emp 1020) hc2 (by rw [List.length_replicate]; decide) (by simp) (by rw [List.length_replicate]; exact hrow)
  rw [hE1, hC1, List.length_replicate] at k1
  clear hE1 hC1
  replace k1 := Lib.hid k1
  replace hrow := Lib.hid hrow
  go_wp2_with (go_at_call 13; (with_reducible refine k1.out.mono ?_); rintro e w3 ⟨rfl, hc3, hg3⟩; have hs3 := hg3.toPlus hp2 hSw; have hz3 := (Plus.below hs3).size)
  obtain ⟨w4, hr, ho4, hg4⟩ := run_make_full (P := Try.prog) w3 w.heap.size 41 5 j0 (.int .u8 0) 1 underU8s hj0 hy0 hy1 .i64 .i64 65473 (by omega) (by decide) hz3
  have hr' : (Instr.makeSlice 41 (.int .i64 65473) (.int .i64 65473)).run Try.prog w3 = _ := hr
  rw [hr']
  clear hr hr'
  obtain ⟨Z, hZ, hcv⟩ := zero_text w4 w.heap.size w3.heap.size ho4
  have k2 := say_two hc3 hg4 Z hZ (by simp)
  replace hZ := Lib.hid hZ
  replace k2 := Lib.hid k2
  simp only [Result.andThen]
  rw [Oper.upon_value]
  go_upto_region 8 with (go_at_call 13; (with_reducible refine k2.out.mono ?_); rintro e w5 ⟨rfl, hc5, hg5⟩)
  have hL3 : ¬ Grown S w2 w3 L := fun h => h.elim hSL (fun hn => by omega)
  have r3' := (hrow.out.chg hg3 (fun g o e => by cases e; exact hSL)).chg hg5 (fun g o e => by cases e; exact hL3)
  have r5 : RowsAt w5 (some ⟨L, 0, none⟩) 1 m (strAt (emp m)) := fun hm0 => by
    obtain ⟨b, o, he, hb, hcells⟩ := r3' (by omega)
    refine ⟨b, o, he, hb, fun i j hi hj => ?_⟩
    rw [hcells i j (by omega) hj]
    have g1 : ∀ k i, (emp k).getD i ⟨#[]⟩ = ⟨#[]⟩ := fun k i => by
      rw [List.getD_eq_getElem?_getD, List.getElem?_replicate]; split <;> rfl
    unfold strAt
    rw [g1, g1]
  have hSw3 : ∀ k, Grown S w2 w3 k → w.heap.size ≤ k := fun k hk => hk.elim (hSw k) (fun h => by have := (Plus.below hp2).size; omega)
  have hp5 : w.Plus w5 := hg5.toPlus hs3 hSw3
  have hSw5 : ∀ k, Grown (Grown S w2 w3) w3 w5 k → w.heap.size ≤ k := fun k hk => hk.elim (hSw3 k) (fun h => by omega)
  have k3 := say_any w5 N1 _ _ (some ⟨L, 0, none⟩) 1020 (emp m) hc5 (by rw [List.length_replicate]; omega) (by simp) (by rw [List.length_replicate]; exact r5)
  have hcl : ∀ k, (emp k).length = k := fun k => List.length_replicate
  by_cases hm4 : 4 < m
  · have hE : sayE ⟨1, 0, 1, emp 1020, 0, false, false⟩ (emp m) = 8 := by unfold sayE; rw [if_neg (by rw [emp_any]; simp), if_pos (by rw [hcl, hcl]; omega)]
    have hC : sayC ⟨1, 0, 1, emp 1020, 0, false, false⟩ (emp m) = ⟨1, 0, 1, emp 1020, 0, false, false⟩ := by unfold sayC; rw [hE]; rfl
    rw [hE, hC, hcl] at k3
    clear hE hC
    have hm4i : (4 : Int) < m := by omega
    replace k3 := Lib.hid k3
    replace hcl := Lib.hid hcl
    clear r3' r5
    go_wp2_with (first | (go_at_call 13; (with_reducible refine k3.out.mono ?_); rintro e w6 ⟨rfl, hc6, hg6⟩; have k4 := waiting_any w6 N1 _ _ hc6 (by rw [hcl.out]; decide); rw [hcl.out] at k4; replace k4 := Lib.hid k4; have hp6 := hg6.toPlus hp5 hSw5) | (go_at_call 16; (with_reducible refine k4.out.mono ?_); rintro e w' ⟨rfl, e7, rfl⟩) | (go_at_call 17; (with_reducible refine (awake_any _).mono ?_); rintro e w' ⟨rfl, e8, rfl⟩))
    go_ret
    exact ⟨rfl, Plus.trans hp6 (by (repeat (first | exact Plus.refl _ | apply Plus.plus | apply Plus.alloc | apply Plus.drew)))⟩
  · have hE : sayE ⟨1, 0, 1, emp 1020, 0, false, false⟩ (emp m) = 0 := by unfold sayE; rw [if_neg (by rw [emp_any]; simp), if_neg (by rw [hcl, hcl]; omega)]
    have hC : sayC ⟨1, 0, 1, emp 1020, 0, false, false⟩ (emp m) = ⟨1, 0, 1, emp (1020 + m), 0, false, false⟩ := by unfold sayC; rw [if_pos hE, show emp 1020 ++ emp m = emp (1020 + m) from List.replicate_append_replicate]
    rw [hE, hC, hcl] at k3
    clear hE hC
    have hm4i : ¬ (4 : Int) < m := by omega
    replace k3 := Lib.hid k3
    replace hcl := Lib.hid hcl
    clear r3' r5
    have hcast : (((1020 + m : Nat)) : Int) = 1020 + (m : Int) := by omega
    replace hcast := Lib.hid hcast
    go_wp2_with (first | (go_at_call 13; (with_reducible refine k3.out.mono ?_); rintro e w6 ⟨rfl, hc6, hg6⟩; have k4 := waiting_any w6 N1 _ _ hc6 (by rw [hcl.out]; omega); rw [hcl.out, hcast.out] at k4; replace k4 := Lib.hid k4; have hp6 := hg6.toPlus hp5 hSw5) | (go_at_call 16; (with_reducible refine k4.out.mono ?_); rintro e w' ⟨rfl, e7, rfl⟩) | (go_at_call 17; (with_reducible refine (awake_any _).mono ?_); rintro e w' ⟨rfl, e8, rfl⟩))
    go_ret
    exact ⟨rfl, Plus.trans hp6 (by (repeat (first | exact Plus.refl _ | apply Plus.plus | apply Plus.alloc | apply Plus.drew)))⟩
end Go.Proofs.Ytpmebmbibajcoaa
