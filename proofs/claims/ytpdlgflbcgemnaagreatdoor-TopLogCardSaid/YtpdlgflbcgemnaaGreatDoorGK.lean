/- Plain laws and walks: Wal, WalB, WalC. -/
import Derived.Test.YtpdlgflbcgemnaaGreatDoorGJ
import Derived.Test.YtpdlgflbcgemnaaGreatDoorGI
-- Wal
/- wal: right, file, last, segments, lay, Append, Sync of a log of one segment: walks. -/
set_option linter.unusedSimpArgs false
set_option linter.unusedVariables false
set_option maxRecDepth 100000
namespace Go.Proofs.YtpdlgflbcgemnaaGreatDoor
open Go.RowKit
theorem _root_.Go.Own.grown {W w w' : World} {l : List Asn} (h : Own W w l) (p : w.Plus w') : Own W w' l := by
  obtain ⟨e, rfl⟩ := p
  exact h.plus e
section
variable {W wx : World} {l : List Asn} {G D : Nat} {d : Dk}
theorem walRight (w : World) : Calls Tryz.prog 15 #[.string tLog] w fun e w' => e = .returned (.bool true) ∧ w.Plus w' := by
  obtain ⟨c, w1, hrun, hp, hlt, hc⟩ := conv_bytes tLog w
  have hc3 : ∀ k : Nat, k < 3 → ∃ v : Int, w1.cell? ⟨w.heap.size, k, none⟩ = some (.int .u8 v) ∧ 97 ≤ v ∧ v ≤ 122 := fun k hk => by
    rcases (by omega : k = 0 ∨ k = 1 ∨ k = 2) with rfl | rfl | rfl
    · exact ⟨108, hc 0 hk, by decide, by decide⟩
    · exact ⟨111, hc 1 hk, by decide, by decide⟩
    · exact ⟨103, hc 2 hk, by decide, by decide⟩
  rw [show tLog.size = 3 from rfl] at hrun
  have hp' := Lib.hid hp
  have hc3' := Lib.hid hc3
  clear hc hc3 hp
  generalize hB : w.heap.size = B at *
  go_enter Tryz.func15, Tryz.ntmps15
  go_wp2_with fail
  go_loopw [8] (fun i wr => ∃ k : Nat, k ≤ 3 ∧ i = .int .i64 (k : Int) ∧ wr = w1) (fun i _ => 3 - (intOf i).toNat)
  case atStart => exact ⟨0, by omega, rfl, rfl⟩
  case round =>
    obtain ⟨k, hk, rfl, rfl⟩ := hrel
    haveI : InW B wr := ⟨hlt⟩
    by_cases hlt3 : k < 3
    · have h3i : (k : Int) < 3 := by omega
      obtain ⟨v, c0, hv1, hv2⟩ := hc3'.out k hlt3
      have g1 : ¬ v < 97 := by omega
      have g2 : ¬ 122 < v := by omega
      go_wp2_with fail
      go_roundw
      case rel => exact ⟨k + 1, by omega, by go_num, by first | rfl | trivial⟩
      case measure => simp [intOf]; omega
    · have h3i : ¬ (k : Int) < 3 := by omega
      go_wp2_with fail
      go_ret
      exact ⟨rfl, hp'.out⟩
theorem file0 (w : World) (hG : G < w.heap.size) (c1 : w.cell? ⟨G, 1, none⟩ = some (.string tLog)) : Calls Tryz.prog 18 #[ptV G, .int .i64 0] w fun e w' => e = .returned (.string nm) ∧ w.Plus w' := by
  have kI := fun w => itoa0 w
  have kR := fun w => repeat7 w
  have e1 : tLog ++ tDot = tLogDot := by decide
  have e2 : tLogDot ++ tSeven = (⟨#[108, 111, 103, 46, 48, 48, 48, 48, 48, 48, 48]⟩ : ByteArray) := by decide
  have e3 : (⟨#[108, 111, 103, 46, 48, 48, 48, 48, 48, 48, 48]⟩ : ByteArray) ++ tZero = nm := by decide
  haveI : InW G w := ⟨hG⟩
  go_enter Tryz.func18, Tryz.ntmps18
  go_upto_region 2 with (go_at_call 55; (with_reducible refine (kI _).mono ?_); rintro e w' ⟨rfl, rfl⟩)
  refine wp_region_grow (by kernel_rfl) (by kernel_rfl) ?_
  repeat (go_big_quiet_step ((go_at_call 56; exact Calls.plus_of ((kR _).mono fun e w' h => ⟨h.1, by rw [h.2]; exact Plus.refl _⟩))))
  refine wpQuiet_nil ?_
  intro ex
  go_wp2_with fail
  go_ret
  exact ⟨rfl, by (repeat (first | exact Plus.refl _ | apply Plus.plus | apply Plus.alloc | apply Plus.drew))⟩
/-- a log of one segment -/
def logL (G D : Nat) (v : Value) (next : Nat) : List Asn := [cellsA G [ptV D, .string tLog, v, .int .i64 (next : Int)], slA 1 v 1 [.int .i64 0]]
def logA (G D next : Nat) : Asn := exA fun v : Value => logL G D v next
theorem log_at {n : Nat} (h : Own W wx (logA G D n :: l)) : ∃ g o c, G < wx.heap.size ∧ g < wx.heap.size ∧ wx.cell? ⟨G, 0, none⟩ = some (ptV D) ∧ wx.cell? ⟨G, 1, none⟩ = some (.string tLog) ∧ wx.cell? ⟨G, 2, none⟩ = some (.slice (some ⟨g, o, none⟩) 1 c) ∧ wx.cell? ⟨G, 3, none⟩ = some (.int .i64 (n : Int)) ∧ wx.cell? ⟨g, o, none⟩ = some (.int .i64 0) ∧
    wx.frozen? ⟨G, 3, none⟩ = false ∧ Own W wx (logL G D (.slice (some ⟨g, o, none⟩) 1 c) n ++ l) := by
  obtain ⟨v, O⟩ := h.ex
  obtain ⟨A, c, rfl⟩ := (O.sl 1 rfl).shape
  obtain ⟨g, o, rfl, hg, hc⟩ := (O.sl 1 rfl).cellsOf (by omega)
  obtain ⟨lG, qG, fG⟩ := O.cells 0 rfl
  exact ⟨g, o, c, lG, hg, qG 0 (by simp), qG 1 (by simp), qG 2 (by simp), qG 3 (by simp), hc 0 (by omega), fG 3, O⟩
theorem last_O {n : Nat} (h : Own W wx (logA G D n :: l)) : Calls Tryz.prog 25 #[ptV G] wx fun e w' => e = .returned (.string nm) ∧ wx.Plus w' := by
  obtain ⟨g, o, c, lG, lg, c0, c1, c2, c3, d0, -, -⟩ := log_at h
  have kF := Lib.hid (fun (e : Ext) => file0 (G := G) (wx.plus e) (Nat.lt_of_lt_of_le lG (Chg.of_plus wx e (fun _ => False)).size) (((Chg.of_plus wx e (fun _ => False)).cell lG (fun h => h)).trans c1))
  haveI : InW G wx := ⟨lG⟩
  haveI : InW g wx := ⟨lg⟩
  clear h lG lg c0 c1 c3
  go_enter Tryz.func25, Tryz.ntmps25
  go_upto_region 1 with fail
  refine wp_region_grow (by kernel_rfl) (by kernel_rfl) ?_
  repeat (go_big_quiet_step ((go_at_call 18; exact Calls.plus_of (kF.out _))))
  refine wpQuiet_nil ?_
  intro ex
  go_wp2_with fail
  go_ret
  exact ⟨rfl, by (repeat (first | exact Plus.refl _ | apply Plus.plus | apply Plus.alloc | apply Plus.drew))⟩
theorem walSync_O {n : Nat} (h : Own W wx (logA G D n :: diskA D d :: l)) (hd : d.dead = false) (f : Fl) (hf : d.F nm = some f) :
    Calls Tryz.prog 11 #[ptV G] wx (OwnTo W (.int .i64 0) (logA G D n :: diskA D { d with F := putF d.F nm ⟨f.s, f.s.size⟩ } :: l)) := by
  obtain ⟨g, o, c, lG, lg, c0, -, -, -, -, -, -⟩ := log_at h
  have kL := Lib.hid (fun (e : Ext) => last_O (h.plus e))
  have kS := Lib.hid (fun (e : Ext) => diskSync_O (h.plus e).rot1 hd nm ⟨by decide, by decide⟩ f hf)
  haveI : InW G wx := ⟨lG⟩
  clear h lG lg
  go_enter Tryz.func11, Tryz.ntmps11
  go_upto_region 3 with fail
  refine wp_region_grow_tail 6 (by kernel_rfl) (by kernel_rfl) ?_
  simp only [List.take_succ_cons, List.take_zero, List.drop_succ_cons, List.drop_zero]
  repeat (go_big_quiet_step ((go_at_call 25; exact Calls.plus_of (kL.out _))))
  refine wpQuiet_nil ?_
  intro ex
  go_wp2_with (go_at_call 24; (with_reducible refine (kS.out _).mono ?_); rintro e w4 ⟨rfl, O4⟩)
  go_ret
  exact ⟨rfl, O4.rot1⟩
set_option maxHeartbeats 1000000 in
theorem lay_O {n : Nat} (h : Own W wx (logA G D n :: diskA D d :: l)) (hT : Frm.Nib W) (hd : d.dead = false) (f : Fl) (hf : d.F nm = some f) (hr : d.room ≤ 4611686018427387904) (hs : f.s.size < 4096) (s fs : ByteArray) (hs2 : s.size ≤ 65536) (hfs : fs = Frm.txt (Frm.framed (Frm.bytes s))) (hfl : fs.size ≤ 70000) (hn : n ≤ 1000000) :
    Calls Tryz.prog 37 #[ptV G, .string s] wx (OwnTo W (.int .i64 (if d.room < fs.size then 12 else 0)) (logA G D (if d.room < fs.size then n else n + 1) :: diskA D (apD d nm fs) :: l)) := by
  have kF := Frm.frame_short s wx (hT.plus h.p) hs2
  rw [← hfs] at kF
  have hsi : (f.s.size : Int) < 4096 := by omega
  replace kF := Lib.hid kF
  replace hfs := Lib.hid hfs
  replace h := Lib.hid h
  by_cases hlt : d.room < fs.size
  · rw [if_pos hlt, if_pos hlt]
    go_enter Tryz.func37, Tryz.ntmps37
    go_upto_region 2 with (go_at_call 72; (with_reducible refine kF.out.mono ?_); rintro e w1 ⟨rfl, e0, rfl⟩)
    have O2 := h.out.plus e0
    clear kF h
    generalize wx.plus e0 = w2 at *
    have kL := Lib.hid (fun (wz : World) (p : w2.Plus wz) => last_O (O2.grown p))
    have kZ := fun (wz : World) (p : w2.Plus wz) => diskSize_O (O2.grown p).rot1 nm ⟨by decide, by decide⟩
    have kA := fun (wz : World) (p : w2.Plus wz) => diskAppend_O (O2.grown p).rot1 hd nm fs ⟨by decide, by decide⟩ hr (.inl (by rw [hf]; rfl)) (by rw [hf]; simp only [Option.getD_some]; omega)
    rw [hf] at kZ
    simp only [Option.getD_some, Option.isSome_some, if_true] at kZ
    simp only [if_pos hlt] at kA
    obtain ⟨g, o, c, lG, lg, c0, -, -, -, -, -, -⟩ := log_at O2
    haveI : InW G w2 := ⟨lG⟩
    replace kA := Lib.hid kA
    replace kZ := Lib.hid kZ
    replace hf := Lib.hid hf
    clear O2 lG lg
    refine wp_region_grow (by kernel_rfl) (by kernel_rfl) ?_
    repeat (go_big_quiet_step ((first | (go_at_call 25; exact Calls.plus_of (kL.out _ (by (repeat (first | exact Plus.refl _ | apply Plus.plus | apply Plus.alloc | apply Plus.drew))))) | (go_at_call 73; exact Calls.plus_of (kZ.out _ (by (repeat (first | exact Plus.refl _ | apply Plus.plus | apply Plus.alloc | apply Plus.drew))))))))
    refine wpQuiet_nil ?_
    intro ex
    go_upto_region 4 with fail
    refine wp_region_grow_tail 7 (by kernel_rfl) (by kernel_rfl) ?_
    simp only [List.take_succ_cons, List.take_zero, List.drop_succ_cons, List.drop_zero]
    repeat (go_big_quiet_step ((go_at_call 25; exact Calls.plus_of (kL.out _ (by (repeat (first | exact Plus.refl _ | apply Plus.plus | apply Plus.alloc | apply Plus.drew)))))))
    refine wpQuiet_nil ?_
    intro ex

    go_wp2_with (go_at_call 17; (with_reducible refine (kA.out _ (by (repeat (first | exact Plus.refl _ | apply Plus.plus | apply Plus.alloc | apply Plus.drew)))).mono ?_); rintro e w4 ⟨rfl, O4⟩)
    go_ret
    exact ⟨rfl, O4.rot1⟩
  · rw [if_neg hlt, if_neg hlt]
    have e1 : wrap64 ((n : Int) + 1) = (n : Int) + 1 := by unfold wrap64; omega
    go_enter Tryz.func37, Tryz.ntmps37
    go_upto_region 2 with (go_at_call 72; (with_reducible refine kF.out.mono ?_); rintro e w1 ⟨rfl, e0, rfl⟩)
    have O2 := h.out.plus e0
    clear kF h
    generalize wx.plus e0 = w2 at *
    have kL := Lib.hid (fun (wz : World) (p : w2.Plus wz) => last_O (O2.grown p))
    have kZ := fun (wz : World) (p : w2.Plus wz) => diskSize_O (O2.grown p).rot1 nm ⟨by decide, by decide⟩
    have kA := fun (wz : World) (p : w2.Plus wz) => diskAppend_O (O2.grown p).rot1 hd nm fs ⟨by decide, by decide⟩ hr (.inl (by rw [hf]; rfl)) (by rw [hf]; simp only [Option.getD_some]; omega)
    rw [hf] at kZ
    simp only [Option.getD_some, Option.isSome_some, if_true] at kZ
    simp only [if_neg hlt] at kA
    obtain ⟨g, o, c, lG, lg, c0, -, -, -, -, -, -⟩ := log_at O2
    haveI : InW G w2 := ⟨lG⟩
    replace kA := Lib.hid kA
    replace kZ := Lib.hid kZ
    replace hf := Lib.hid hf
    clear O2 lG lg
    refine wp_region_grow (by kernel_rfl) (by kernel_rfl) ?_
    repeat (go_big_quiet_step ((first | (go_at_call 25; exact Calls.plus_of (kL.out _ (by (repeat (first | exact Plus.refl _ | apply Plus.plus | apply Plus.alloc | apply Plus.drew))))) | (go_at_call 73; exact Calls.plus_of (kZ.out _ (by (repeat (first | exact Plus.refl _ | apply Plus.plus | apply Plus.alloc | apply Plus.drew))))))))
    refine wpQuiet_nil ?_
    intro ex
    go_upto_region 4 with fail
    refine wp_region_grow_tail 7 (by kernel_rfl) (by kernel_rfl) ?_
    simp only [List.take_succ_cons, List.take_zero, List.drop_succ_cons, List.drop_zero]
    repeat (go_big_quiet_step ((go_at_call 25; exact Calls.plus_of (kL.out _ (by (repeat (first | exact Plus.refl _ | apply Plus.plus | apply Plus.alloc | apply Plus.drew)))))))
    refine wpQuiet_nil ?_
    intro ex

    go_upto_region 7 with (go_at_call 17; (with_reducible refine (kA.out _ (by (repeat (first | exact Plus.refl _ | apply Plus.plus | apply Plus.alloc | apply Plus.drew)))).mono ?_); rintro e w4 ⟨rfl, O4⟩)
    obtain ⟨g, o, c, lG, lg, -, -, -, c3, -, f3, O5⟩ := log_at O4.rot1
    simp only [logL, List.cons_append, List.nil_append] at O5
    have O6 := O5.setCellAt 0 3 (.int .i64 ((n : Int) + 1)) rfl (by simp)
    simp only [List.set_cons_succ, List.set_cons_zero] at O6
    haveI : InW G w4 := ⟨lG⟩
    clear O4 O5 kA
    replace O6 := Lib.hid O6
    go_wp2_with fail
    go_ret
    exact ⟨rfl, Own.mk (fun v : Value => logL G D v (n + 1)) _ O6.out⟩
end
end Go.Proofs.YtpdlgflbcgemnaaGreatDoor
-- WalB
/- wal: Append of one record, segments: walks. -/
set_option linter.unusedSimpArgs false
set_option linter.unusedVariables false
set_option maxRecDepth 100000
namespace Go.Proofs.YtpdlgflbcgemnaaGreatDoor
open Go.RowKit
section
variable {W wx : World} {l : List Asn} {G D : Nat} {d : Dk}
theorem tooLong (w : World) (s : ByteArray) (hs : s.size ≤ 65536) : Calls Tryz.prog 36 #[.string s] w fun e w' => e = .returned (.bool false) ∧ w.Plus w' := by
  have h1 : ¬ (65536 : Int) < (s.size : Int) := by omega
  go_enter Tryz.func36, Tryz.ntmps36
  go_wp2_with fail
  go_ret
  exact ⟨rfl, by (repeat (first | exact Plus.refl _ | apply Plus.plus | apply Plus.alloc | apply Plus.drew))⟩
theorem indexLong (w : World) (s : ByteArray) (hs : s.size ≤ 65536) (B : Nat) (hB : B < w.heap.size) (h0 : w.cell? ⟨B, 0, none⟩ = some (.string s)) :
    Calls Tryz.prog 71 #[.slice (some ⟨B, 0, none⟩) 1 1, .func (.func 36) #[] #[]] w fun e w' => e = .returned (.int .i64 (-1)) ∧ w.Plus w' := by
  have kW := Lib.hid (fun (wz : World) => tooLong wz s hs)
  haveI : InW B w := ⟨hB⟩
  clear hs hB
  go_enter Tryz.func71, Tryz.ntmps71
  go_wp2_with fail
  go_loopw [8] (fun v wr => ∃ i : Nat, i ≤ 1 ∧ v = .int .i64 i ∧ w.Plus wr) (fun v _ => 1 - (intOf v).toNat)
  case atStart => exact ⟨0, by omega, rfl, Plus.refl _⟩
  case round =>
    obtain ⟨i, hi, rfl, e, rfl⟩ := hrel
    by_cases hlt : i < 1
    · obtain rfl : i = 0 := by omega
      go_wp2_with (go_at_call 36; (with_reducible refine (kW.out _).mono ?_); rintro e w' ⟨rfl, e0, rfl⟩)
      refine ⟨⟨1, by omega, rfl, by (repeat (first | exact Plus.refl _ | apply Plus.plus | apply Plus.alloc | apply Plus.drew))⟩, ?_⟩
      simp [intOf]
    · obtain rfl : i = 1 := by omega
      go_wp2_with fail
      go_ret
      exact ⟨rfl, by (repeat (first | exact Plus.refl _ | apply Plus.plus | apply Plus.alloc | apply Plus.drew))⟩
theorem containsLong (w : World) (s : ByteArray) (hs : s.size ≤ 65536) (B : Nat) (hB : B < w.heap.size) (h0 : w.cell? ⟨B, 0, none⟩ = some (.string s)) :
    Calls Tryz.prog 35 #[.slice (some ⟨B, 0, none⟩) 1 1, .func (.func 36) #[] #[]] w fun e w' => e = .returned (.bool false) ∧ w.Plus w' := by
  have kI := Lib.hid (indexLong w s hs B hB h0)
  clear hs hB h0
  go_enter Tryz.func35, Tryz.ntmps35
  go_wp2_with (go_at_call 71; (with_reducible refine kI.out.mono ?_); rintro e w' ⟨rfl, e0, rfl⟩)
  go_ret
  exact ⟨rfl, by (repeat (first | exact Plus.refl _ | apply Plus.plus | apply Plus.alloc | apply Plus.drew))⟩
set_option maxHeartbeats 1000000 in
theorem walAppend_O {n : Nat} (h : Own W wx (logA G D n :: diskA D d :: l)) (hT : Frm.Nib W) (hd : d.dead = false) (f : Fl) (hf : d.F nm = some f) (hr : d.room ≤ 4611686018427387904) (hs : f.s.size < 4096) (s fs : ByteArray) (hs2 : s.size ≤ 65536) (hfs : fs = Frm.txt (Frm.framed (Frm.bytes s))) (hfl : fs.size ≤ 70000) (hn : n ≤ 1000000)
    (B : Nat) (hB : B < wx.heap.size) (h0 : wx.cell? ⟨B, 0, none⟩ = some (.string s)) :
    Calls Tryz.prog 10 #[ptV G, .slice (some ⟨B, 0, none⟩) 1 1] wx (OwnTo W (.int .i64 (if d.room < fs.size then 12 else 0)) (logA G D (if d.room < fs.size then n else n + 1) :: diskA D (apD d nm fs) :: l)) := by
  have kC := Lib.hid (containsLong wx s hs2 B hB h0)
  have kL := Lib.hid (fun (wz : World) (p : wx.Plus wz) => lay_O (h.grown p) hT hd f hf hr hs s fs hs2 hfs hfl hn)
  haveI : InW B wx := ⟨hB⟩
  clear h hB hfs hfl hs hs2 hf hr hd hT hn
  obtain ⟨c, hc⟩ : ∃ c : Int, c = if d.room < fs.size then 12 else 0 := ⟨_, rfl⟩
  rw [← hc] at kL ⊢
  obtain ⟨m, hm⟩ : ∃ m : Nat, m = if d.room < fs.size then n else n + 1 := ⟨_, rfl⟩
  rw [← hm] at kL ⊢
  replace hm := Lib.hid hm
  go_enter Tryz.func10, Tryz.ntmps10
  go_upto_region 3 with (go_at_call 35; (with_reducible refine kC.out.mono ?_); rintro e w' ⟨rfl, e0, rfl⟩)
  clear kC
  replace hc := Lib.hid hc
  go_wp2_with fail
  go_loopw [16] (fun i wr => (i = .int .i64 0 ∧ wx.Plus wr) ∨ (i = .int .i64 1 ∧ c = 0 ∧ Own W wr (logA G D m :: diskA D (apD d nm fs) :: l))) (fun i _ => 1 - (intOf i).toNat)
  case atStart => exact .inl ⟨rfl, by (repeat (first | exact Plus.refl _ | apply Plus.plus | apply Plus.alloc | apply Plus.drew))⟩
  case round =>
    rcases hrel with ⟨rfl, e1, rfl⟩ | ⟨rfl, hc0, O⟩
    · by_cases hc0 : c = 0
      · rw [hc0] at kL
        have hc0' := Lib.hid hc0
        clear hc0
        go_wp2_with (go_at_call 37; (with_reducible refine (kL.out _ (by (repeat (first | exact Plus.refl _ | apply Plus.plus | apply Plus.alloc | apply Plus.drew)))).mono ?_); rintro e w4 ⟨rfl, O4⟩)
        go_roundw
        case rel => exact .inr ⟨rfl, hc0'.out, O4⟩
        case measure => simp [intOf]
      · have hcb : (c != 0) = true := by simpa using hc0
        go_wp2_with (go_at_call 37; (with_reducible refine (kL.out _ (by (repeat (first | exact Plus.refl _ | apply Plus.plus | apply Plus.alloc | apply Plus.drew)))).mono ?_); rintro e w4 ⟨rfl, O4⟩)
        go_ret
        exact ⟨rfl, O4⟩
    · subst hc0
      replace O := Lib.hid O
      go_wp2_with fail
      go_ret
      exact ⟨rfl, O.out⟩
end
end Go.Proofs.YtpdlgflbcgemnaaGreatDoor
-- WalC
/- wal: segments: walks. -/
set_option linter.unusedSimpArgs false
set_option linter.unusedVariables false
set_option maxRecDepth 100000
namespace Go.Proofs.YtpdlgflbcgemnaaGreatDoor
open Go.RowKit
theorem isrc (w : World) (B : Nat) (n : Int) (h0 : w.cell? ⟨B, 0, none⟩ = some (.int .i64 n)) : Src Tryz.prog 1 50 (.slice (some ⟨B, 0, none⟩) 1 1) 1 [.int .i64 n] w :=
  Src.ofCells (e := 3) (by kernel_rfl) w [.int .i64 n] rfl (fun j hj => by
    match j, hj with
    | 0, _ => exact h0) (fun u hu => by simp at hu; subst hu; rfl) 1
section
variable {W wx : World} {l : List Asn} {G D : Nat} {d : Dk} {v x : Value}
set_option maxHeartbeats 1000000 in
theorem segments0 (h : Own W wx (cellsA G [ptV D, .string tLog, v, x] :: diskA D d :: l)) (hn : d.n = 0) : Calls Tryz.prog 16 #[ptV G] wx fun e w' => e = .returned (.slice none 0 0) ∧ Own W w' (cellsA G [ptV D, .string tLog, v, x] :: diskA D d :: l) := by
  have kF := Lib.hid (files0_O h.rot1 hn)
  obtain ⟨lG, qG, -⟩ := h.cells 0 rfl
  have c0 := qG 0 (by simp)
  simp only [List.getElem?_cons_succ, List.getElem?_cons_zero] at c0
  haveI : InW G wx := ⟨lG⟩
  clear h lG qG
  go_enter Tryz.func16, Tryz.ntmps16
  go_wp2_with (go_at_call 38; (with_reducible refine kF.out.mono ?_); rintro e w1 ⟨rfl, O1⟩)
  replace O1 := Lib.hid O1
  go_loopw [3, 16] (fun s i wr => s = .slice none 0 0 ∧ i = .int .i64 0 ∧ wr = w1) (fun _ _ _ => 0)
  case atStart => exact ⟨rfl, rfl, rfl⟩
  case round =>
    obtain ⟨rfl, rfl, rfl⟩ := hrel
    go_wp2_with fail
    go_ret
    exact ⟨rfl, O1.out.rot1⟩
set_option maxHeartbeats 2000000 in
theorem segments1 (h : Own W wx (cellsA G [ptV D, .string tLog, v, x] :: diskA D d :: l)) (hn : d.n = 1) (f : Fl) (hf : d.F nm = some f) : Calls Tryz.prog 16 #[ptV G] wx fun e w' => ∃ A c, e = .returned (.slice A 1 c) ∧ Own W w' (slA 1 (.slice A 1 c) 1 [.int .i64 0] :: cellsA G [ptV D, .string tLog, v, x] :: diskA D d :: l) := by
  have kF := Lib.hid (files1_O h.rot1 hn f hf)
  have kC := Lib.hid (fun w => cutLog w)
  have kA := Lib.hid (fun w => atoi0 w)
  have e1 : tLog ++ tDot = tLogDot := by decide
  obtain ⟨lG, qG, -⟩ := h.cells 0 rfl
  have c0 := qG 0 (by simp)
  simp only [List.getElem?_cons_succ, List.getElem?_cons_zero] at c0
  haveI : InW G wx := ⟨lG⟩
  clear h lG qG
  go_enter Tryz.func16, Tryz.ntmps16
  go_wp2_with (go_at_call 38; (with_reducible refine kF.out.mono ?_); rintro e w1 ⟨A, c, rfl, O1⟩)
  replace O1 := Lib.hid O1
  go_loopw [3, 16] (fun s i wr => (s = .slice none 0 0 ∧ i = .int .i64 0 ∧ wr = w1) ∨ ∃ A2 c2, s = .slice A2 1 c2 ∧ i = .int .i64 1 ∧ Own W wr (slA 1 (.slice A2 1 c2) 1 [.int .i64 0] :: cellsA G [ptV D, .string tLog, v, x] :: diskA D d :: l)) (fun _ i _ => 1 - (intOf i).toNat)
  case atStart => exact .inl ⟨rfl, rfl, rfl⟩
  case round =>
    rcases hrel with ⟨rfl, rfl, rfl⟩ | ⟨A2, c2, rfl, rfl, O⟩
    · obtain ⟨g, o, rfl, hg, hc⟩ := (O1.out.sl 1 rfl).cellsOf (by omega)
      have d0 : wr.cell? ⟨g, o, none⟩ = some (.string nm) := hc 0 (by omega)
      obtain ⟨lG, qG, -⟩ := O1.out.cells 2 rfl
      have c1 := qG 1 (by simp)
      simp only [List.getElem?_cons_succ, List.getElem?_cons_zero] at c1
      haveI : InW g wr := ⟨hg⟩
      haveI : InW G wr := ⟨lG⟩
      have kT := Lib.hid (trim8 O1.out)
      clear hc qG hg lG kF c0
      go_upto_region 7 with (first | (go_at_call 51; (with_reducible refine (kC.out _).mono ?_); rintro e w' ⟨rfl, rfl⟩) | (go_at_call 52; (with_reducible refine kT.out.mono ?_); rintro e w5 ⟨rfl, O5⟩))
      clear kT O1 d0 c1
      go_upto_region 8 with (go_at_call 53; (with_reducible refine (kA.out _).mono ?_); rintro e w' ⟨rfl, e0, rfl⟩)
      have O6 := Lib.hid (Own.nilSl ((O5.plus e0).alloc (.cells #[.int .i64 0] 3)) 1)
      clear O5
      generalize w5.plus e0 = w6 at *
      go_wp2_with (at_builtin; refine wpList_append_O rfl _ _ 50 50 rfl 3 Tryz.t3 (.int .i64 0) 1 8 (by kernel_rfl) (by kernel_rfl) (by kernel_rfl) (by kernel_rfl) (by kernel_rfl) rfl rfl O6.out rfl (isrc _ _ 0 (by simp [go_sem])) (by unfold maxLen; omega) (by omega) ?_; intro A2 c2 w7 O7)
      go_roundw
      case rel => exact .inr ⟨A2, c2, rfl, rfl, ((O7.pull 2 rfl).drop.pull 2 rfl).rot1⟩
      case measure => simp [intOf]
    · replace O := Lib.hid O
      go_wp2_with fail
      go_ret
      exact ⟨A2, c2, rfl, O.out⟩
end
end Go.Proofs.YtpdlgflbcgemnaaGreatDoor
