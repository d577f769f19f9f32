/- TopLog: what was synced is read again: messages that are logged, synced now and then, on a disk that dies at any byte and crashes with any bytes kept: all that were synced are there, and of the others a beginning; what is logged behind that is read, too. For every input, over the program's own tables, no condition. -/
import Derived.Test.YtpdlgflbcgemnaaGreatDoorRows
import Derived.Test.YtpdlgflbcgemnaaGreatDoorCards
import Derived.Test.YtpdlgflbcgemnaaGreatDoorTie
import Derived.Test.YtpdlgflbcgemnaaGreatDoorLogW
import Derived.ProofKit
import Derived.OpenShut
import Derived.Deep.DeepHandedRow
import Derived.Deep.DeepWitnessRowRef
import Derived.Lib.LaidTab
import Derived.Lay
import Derived.WalkKit
set_option linter.unusedSimpArgs false
set_option linter.unusedVariables false
set_option maxRecDepth 100000
namespace Go.Proofs.YtpdlgflbcgemnaaGreatDoor.lawTopLog
open Go.ChangeShapes Go.WideShapes Go.ChangeAt Go.RowKit Go.Deep Octs
theorem open_msgs {w : World} {x : List msTy.El} {c : List Value} (h : Holds w (.slice 96 msTy) x c) : ∃ (A : Option Addr) (cp : Nat) (xs : List (MsgR × MAt)), c = [.slice A xs.length cp] ∧ xs.length ≤ 9223372036854775807 ∧ RowsAt w A 6 xs.length (msRow xs) ∧ ∀ x ∈ xs, MRows w x.1 x.2 := by
  obtain ⟨A, cp, rfl, hl, hb, _, hr⟩ := h
  have hcp : cp * 96 ≤ 140737488355328 := Nat.le_trans hb (by decide)
  rcases Nat.eq_zero_or_pos x.length with h0 | h0
  · exact ⟨A, cp, [], by rw [h0]; rfl, by simp, RowsAt.zero _ _ _ _, fun d hd => by cases hd⟩
  · obtain ⟨b, off, hA, hbl, hc⟩ := hr h0
    have each : ∀ i, i < x.length → ∃ d : MsgR × MAt, (∀ j, j < 6 → w.cell? ⟨b, off + (i * 6 + j), none⟩ = (msC d.1 d.2)[j]?) ∧ MRows w d.1 d.2 := fun i hi => by
      obtain ⟨row, hrl, hrc, hh⟩ := hc i _ (List.getElem?_eq_getElem hi)
      obtain ⟨m, a, rfl, h1⟩ := open_msg hh
      refine ⟨(m, a), fun j hj => ?_, h1⟩
      have h6 : (mCs m a).length = 6 := rfl
      show _ = (mCs m a)[j]?
      rw [List.getElem?_eq_getElem (by rw [h6]; exact hj)]
      exact hrc j _ (List.getElem?_eq_getElem (by rw [h6]; exact hj))
    haveI : Inhabited (MsgR × MAt) := ⟨ms0⟩
    obtain ⟨F, hF⟩ := choose_lt each
    refine ⟨A, cp, (List.range x.length).map F, by simp, by simp; omega, fun _ => ⟨b, off, hA, hbl, fun i j hi hj => ?_⟩, fun d hd => ?_⟩
    · have hi' : i < x.length := by simpa using hi
      rw [(hF i hi').1 j hj]
      unfold msRow
      have e : ((List.range x.length).map F).getD i ms0 = F i := by
        rw [List.getD_eq_getElem?_getD, List.getElem?_map, List.getElem?_range hi']
        rfl
      rw [e]
      have h6 : (msC (F i).1 (F i).2).length = 6 := rfl
      rw [List.getD_eq_getElem?_getD, List.getElem?_eq_getElem (by rw [h6]; exact hj)]
      rfl
    · obtain ⟨i, hi, rfl⟩ := List.mem_map.1 hd
      exact (hF i (List.mem_range.1 hi)).2
theorem gTab : Tryz.prog.globalNamed "hedgerow/frame.nibble" = some 0 := by kernel_rfl
theorem gTabType : (Tryz.prog.globals[0]?).map (·.type) = some 181 := by kernel_rfl
theorem cellsTab : Tryz.prog.cellsOf 181 = 16 := by kernel_rfl
theorem cellsU32 : Tryz.prog.cellsOf 151 = 1 := by kernel_rfl
theorem underTab : Tryz.prog.underlying 181 = some (.array 16 151) := by kernel_rfl
theorem underU32 : Tryz.prog.underlying 151 = some (.int .u32) := by kernel_rfl
theorem tableOf {W : World} (h : laidMetH Tryz.prog Rows.topLogRow.laid W) :
    Lib.TabIs Tryz.prog W "hedgerow/frame.nibble" .u32 [0, 498536548, 997073096, 651767980, 1994146192, 1802195444, 1303535960, 1342533948, 3988292384, 4027552580, 3604390888, 3412177804, 2607071920, 2262029012, 2685067896, 3183342108] := by
  rw [MakeChecks.laidMetH_plain _ _ _ (by kernel_rfl)] at h
  exact Lib.tabIs_of_head gTab gTabType underTab underU32 cellsU32 cellsTab h
theorem nibOf {W : World} (h : laidMetH Tryz.prog Rows.topLogRow.laid W) : Frm.Nib W := by
  have hc := fun n (hn : n < 16) => (tableOf h).cell gTab n hn
  refine ⟨World.block_lt_of_cell? W _ (hc 0 (by omega)), fun n hn => ?_⟩
  rw [hc n hn]
  have : ∀ n : Fin 16, ([0, 498536548, 997073096, 651767980, 1994146192, 1802195444, 1303535960, 1342533948, 3988292384, 4027552580, 3604390888, 3412177804, 2607071920, 2262029012, 2685067896, 3183342108] : List Int).getD n.val 0 = ((Crc.nib n.val : Nat) : Int) := by decide
  rw [this ⟨n, hn⟩]
noncomputable def laidWorld (os : Os) : World := World.laidAll Tryz.prog os Rows.topLogRow.laid
theorem laidOut : laidOutB Tryz.prog = true := by kernel_rfl
theorem own : ownKnob Tryz.prog.godebug = none := by kernel_rfl
theorem laid_met (os : Os) : laidMetH Tryz.prog Rows.topLogRow.laid ((laidWorld os).forCall (fun _ _ => 0) ⟨#[], #[.slice none 0 0, .int .i64 0, .int .i64 0, .int .i64 0], []⟩).memory :=
  by rw [MakeChecks.laidMetH_plain _ _ _ (by kernel_rfl)]; exact laidMet_laidAll _ (by kernel_rfl) (by kernel_rfl)
theorem reads (os : Os) {H : Type} (enc : TypeId × Value → H) : ∃ places, DataW.whole enc Tryz.prog ((laidWorld os).forCall (fun _ _ => 0) ⟨#[], #[.slice none 0 0, .int .i64 0, .int .i64 0, .int .i64 0], []⟩).memory Tryz.f3.params.toList Rows.topLogSpec.vars false (#[.slice none 0 0, .int .i64 0, .int .i64 0, .int .i64 0] : Array Value).toList 8 = some ([.nil, .lit (.int .i64 0), .lit (.int .i64 0), .lit (.int .i64 0)], [], places) :=
  ⟨[], by kernel_rfl⟩
set_option maxRecDepth 100000 in
set_option maxHeartbeats 1000000 in
theorem lifted (os : Os) (started : os.Started) (H : Type) (enc : TypeId × Value → H) (F : Stop.Interp) :
    ReturnsInHanded {} Tryz.checked os 3 .any ((OpenSpec.ofChange Rows.topLogSpec).preRow enc Tryz.prog Tryz.f3 Rows.topLogRow.domain false Rows.topLogRow.laid) (((OpenSpec.ofChange Rows.topLogSpec).at F).post enc Tryz.prog Tryz.f3 false true false false) := by
  obtain ⟨places, hx⟩ := reads os enc
  refine returnsInHanded_of_row (C := Tryz.checked) (s := OpenSpec.ofChange Rows.topLogSpec) own started (by kernel_rfl) Tryz.func3
    (witness_row_atRef (enc := enc) (C := Tryz.checked) false (laidWorld os) #[.slice none 0 0, .int .i64 0, .int .i64 0, .int .i64 0] (World.laidAll_os _ _ _) (by kernel_rfl) (by kernel_rfl) (by kernel_rfl)
      (OpenSpec.preRow_of_cond 8 hx (by kernel_rfl) (fun k hk => by cases hk) (by kernel_rfl) (laid_met os))) ?_
  intro W base args ds gs before hval0 hW _ _ hsz0 hL _ _
  have hT := nibOf hL
  have hval : ∀ (j : Nat) t v, Tryz.f3.params[j]? = some t → args[j]? = some v → Value.okWide Tryz.prog W .any base t v := hval0
  have hsz : (DataW.weightsEach Tryz.prog (Tryz.f3.params.toList ++ Rows.topLogSpec.plain.varTypes Tryz.prog) (ds ++ gs)).all (· ≤ reachBytes) = true := hsz0
  have hW' : DataW.Whole enc Tryz.prog Tryz.f3.params.toList Rows.topLogSpec.vars false W args.toList ds gs before := hW
  obtain ⟨p, q, hA0, hV, rfl, hfz, hnd⟩ := hW
  have hA : DataW.TrodAll enc Tryz.prog W 0 (fun _ => true) true Tryz.f3.params.toList args.toList ds p := hA0
  rw [Tryz.params3] at hA hval hsz
  obtain ⟨v0, vs0, d0, ds0, p0, q0, hargs, rfl, rfl, h0, r0⟩ := trodAll_cons hA
  obtain ⟨v1, vs1, d1, ds1, p1, q1, rfl, rfl, rfl, h1, r1⟩ := trodAll_cons r0
  obtain ⟨v2, vs2, d2, ds2, p2, q2, rfl, rfl, rfl, h2, r2⟩ := trodAll_cons r1
  obtain ⟨v3, vs3, d3, ds3, p3, q3, rfl, rfl, rfl, h3, r3⟩ := trodAll_cons r2
  obtain ⟨rfl, rfl, rfl⟩ := trodAll_nil r3
  obtain rfl : args = #[v0, v1, v2, v3] := by cases args; simp_all
  obtain ⟨rfl, rfl⟩ := trodVars_none hV
  have light : ∀ (j : Nat) (t : TypeId) (d : DataW H), (Tryz.f3.params.toList ++ Rows.topLogSpec.plain.varTypes Tryz.prog)[j]? = some t → ([d0, d1, d2, d3] : List (DataW H))[j]? = some d → Light Tryz.prog t d := fun j t d hj hd m hm => by
    have h := List.all_eq_true.1 hsz m (DataW.weights_mem_each (j := j) (by rw [Tryz.params3] at hj; exact hj) (by simpa using hd) m hm)
    simpa using h
  obtain ⟨x0, c0, hh0, hv0⟩ := open_arg (n := 8) (ty := (.slice 96 (.pair (.int .i64) (.pair (.int .i64) (.pair (.int .i64) (.pair (.slice 128 (.pair (.int .i64) (.pair (.pair (.int .i64) (.pair (.int .i64) (.pair (.int .i64) .unit))) (.pair (.pair (.pair (.int .i64) (.pair (.int .i64) (.pair (.int .i64) .unit))) (.pair (.int .i64) (.pair (.int .i64) (.pair (.int .i64) (.pair (.int .i64) (.pair (.int .i64) (.pair (.int .i64) (.pair (.int .i64) (.pair (.int .i64) .unit))))))))) (.pair (.int .i64) .unit))))) (.pair (.slice 88 (.pair (.pair (.int .i64) (.pair (.int .i64) (.pair (.int .i64) .unit))) (.pair (.int .i64) (.pair (.int .i64) (.pair (.int .i64) (.pair (.int .i64) (.pair (.int .i64) (.pair (.int .i64) (.pair (.int .i64) (.pair (.int .i64) .unit)))))))))) (.pair (.slice 24 (.pair (.int .i64) (.pair (.int .i64) (.pair (.int .i64) .unit)))) .unit)))))))) (by kernel_rfl) (hval 0 _ v0 rfl rfl) h0 (light 0 _ _ rfl rfl)
  obtain ⟨x1, c1, hh1, hv1⟩ := open_arg (n := 8) (ty := (.int .i64)) (by kernel_rfl) (hval 1 _ v1 rfl rfl) h1 (light 1 _ _ rfl rfl)
  obtain ⟨hc1, wf1⟩ := hh1.flat rfl
  rw [hc1] at hv1
  obtain rfl : v1 = .int .i64 x1 := (List.cons.inj hv1).1.symm
  clear hc1 hh1 h1
  obtain ⟨x2, c2, hh2, hv2⟩ := open_arg (n := 8) (ty := (.int .i64)) (by kernel_rfl) (hval 2 _ v2 rfl rfl) h2 (light 2 _ _ rfl rfl)
  obtain ⟨hc2, wf2⟩ := hh2.flat rfl
  rw [hc2] at hv2
  obtain rfl : v2 = .int .i64 x2 := (List.cons.inj hv2).1.symm
  clear hc2 hh2 h2
  obtain ⟨x3, c3, hh3, hv3⟩ := open_arg (n := 8) (ty := (.int .i64)) (by kernel_rfl) (hval 3 _ v3 rfl rfl) h3 (light 3 _ _ rfl rfl)
  obtain ⟨hc3, wf3⟩ := hh3.flat rfl
  rw [hc3] at hv3
  obtain rfl : v3 = .int .i64 x3 := (List.cons.inj hv3).1.symm
  clear hc3 hh3 h3
  clear hA0 hval0 hval light hsz hsz0
  obtain ⟨A0, c0, xs0, hc0, hl0, hr0, hm0⟩ := open_msgs hh0
  rw [hc0] at hv0
  obtain rfl : v0 = .slice A0 xs0.length c0 := (List.cons.inj hv0).1.symm
  clear hc0 hh0 hv0 h0
  refine (topLog_any xs0 x1 x2 x3 A0 c0 W hT hr0 hm0 hl0).mono fun e W' ⟨he, hp⟩ => ?_
  subst he
  exact ⟨_, rfl, post_true hW' rfl rfl rfl rfl laidOut (by kernel_rfl) rfl (by kernel_rfl) (Plus.below hp)⟩
theorem said : Rows.TopLogSaid :=
  OpenClaim.holds_of_cond 3 Tryz.f3 rfl rfl rfl rfl rfl rfl rfl ⟨rfl, rfl, rfl, rfl, rfl⟩ rfl rfl rfl rfl rfl (by kernel_rfl) Tryz.func3 (by kernel_rfl)
    (of_decide_eq_true (by kernel_rfl)) (by unfold Func.isWrapper; first | (rw [if_pos (by decide +kernel)]; kernel_rfl) | (rw [if_neg (by decide +kernel)]; exact ⟨rfl, rfl⟩))
    (fun os started H enc _ F => by rw [OpenClaim.pre_eq_preRow]; exact lifted os started H enc F)
theorem plain (f : FuncId) (fn : Func) (hf : Tryz.pinned.checked.prog.funcNamed "hedgerow/hedgerowtop.TopLog" = some f) (hfn : Tryz.pinned.checked.prog.funcs[f]? = some fn) :
    true = Tryz.pinned.checked.prog.looks [] ∧ ∀ (j : Nat) t, fn.params[j]? = some t → Tryz.pinned.checked.prog.wantsStandIn t = false := by
  obtain rfl : f = 3 := Option.some.inj ((show Tryz.prog.funcNamed "hedgerow/hedgerowtop.TopLog" = some 3 by kernel_rfl).symm.trans hf) |>.symm
  obtain rfl : fn = Tryz.f3 := (Option.some.inj (Tryz.func3.symm.trans hfn)).symm
  refine ⟨by kernel_rfl, fun j t ht => ?_⟩
  rw [Tryz.params3] at ht
  have hall : (Tryz.f3.params.toList.all fun t => Tryz.prog.wantsStandIn t == false) = true := by kernel_rfl
  rw [Tryz.params3] at hall
  have := List.all_eq_true.1 hall t (by simpa using Array.mem_of_getElem? ht)
  exact (show Tryz.prog.wantsStandIn t = false by simpa using this)
theorem card : Rows.TopLogCardSaid :=
  Claim7.holds_tied_plain_at .later [] _ _ _ _ said (fun _ h => by cases h) (by kernel_rfl) (fun _ h => by cases h) topLog_row_tie rfl ⟨rfl, rfl⟩ (by kernel_rfl) rfl plain (by kernel_rfl)
end Go.Proofs.YtpdlgflbcgemnaaGreatDoor.lawTopLog
