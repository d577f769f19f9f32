/- codec: numbers that are read as data; CodecPuts: walk. -/
import Derived.Test.YtjfjecjigakdnaaCod9
import Derived.Test.YtjfjecjigakdnaaGf
set_option linter.unusedSimpArgs false
set_option linter.unusedVariables false
namespace Go.Proofs.Ytjfjecjigakdnaa
open Go.RowKit
abbrev idTy : Ty := .pair (.int .i64) (.pair (.int .i64) (.pair (.int .i64) .unit))
abbrev bdTy : Ty := .pair idTy (.pair (.int .i64) (.pair (.int .i64) (.pair (.int .i64) (.pair (.int .i64) (.pair (.int .i64) (.pair (.int .i64) (.pair (.int .i64) (.pair (.int .i64) .unit))))))))
abbrev cmTy : Ty := .pair (.int .i64) (.pair idTy (.pair bdTy (.pair (.int .i64) .unit)))
def toI (x : idTy.El) : IdR := ⟨x.1, x.2.1, x.2.2.1⟩
def toB (x : bdTy.El) : BdR := ⟨⟨x.1.1, x.1.2.1, x.1.2.2.1⟩, x.2.1, x.2.2.1, x.2.2.2.1, x.2.2.2.2.1, x.2.2.2.2.2.1, x.2.2.2.2.2.2.1, x.2.2.2.2.2.2.2.1, x.2.2.2.2.2.2.2.2.1⟩
def toC (x : cmTy.El) : CmdR := ⟨x.1, toI x.2.1, toB x.2.2.1, x.2.2.2.1⟩
theorem wf_i64 {n : Int} (h : (Lit.int .i64 n).wf = true) : Octs.In64 n := by
  simp [Lit.wf, IntKind.min, IntKind.max, IntKind.signed, IntKind.bits] at h
  unfold Octs.In64
  omega
theorem wf_toI {x : idTy.El} (h : idTy.Wf x) : IdI (toI x) := ⟨wf_i64 h.1, wf_i64 h.2.1, wf_i64 h.2.2.1⟩
theorem wf_toB {x : bdTy.El} (h : bdTy.Wf x) : BdI (toB x) := ⟨wf_toI h.1, wf_i64 h.2.1, wf_i64 h.2.2.1, wf_i64 h.2.2.2.1, wf_i64 h.2.2.2.2.1, wf_i64 h.2.2.2.2.2.1, wf_i64 h.2.2.2.2.2.2.1, wf_i64 h.2.2.2.2.2.2.2.1, wf_i64 h.2.2.2.2.2.2.2.2.1⟩
theorem wf_toC {x : cmTy.El} (h : cmTy.Wf x) : CmI (toC x) := ⟨wf_i64 h.1, wf_toI h.2.1, wf_toB h.2.2.1, wf_i64 h.2.2.2.1⟩
set_option maxHeartbeats 1000000
set_option maxRecDepth 100000
theorem codecPuts_any (a : IdR) (b : BdR) (c : CmdR) (ha : IdI a) (hb : BdI b) (hc : CmI c) (W : World) :
    Calls Try.prog 3 #[a.v, b.v, c.v] W fun e w' => e = .returned (.bool true) ∧ W.Plus w' := by
  have k1 := fun w => putID_any a ha w
  have k2 := fun w => refID_any a ha w
  have k3 := fun w => putBundle_any b hb w
  have k4 := fun w => refBundle_any b hb w
  have k5 := fun w => putCmd_any c hc w
  have k6 := fun w => refCmd_any c hc w
  generalize Octs.txt (encI a) = ta at *
  generalize Octs.txt (encB b) = tb at *
  generalize Octs.txt (encC c) = tc at *
  replace k1 := Lib.hid k1
  replace k2 := Lib.hid k2
  replace k3 := Lib.hid k3
  replace k4 := Lib.hid k4
  replace k5 := Lib.hid k5
  replace k6 := Lib.hid k6
  have kA := Lib.hid (fun w => awake_any w)
  clear ha hb hc
  go_enter Try.func3, Try.ntmps3
  go_wp2_with fail
  refine wp_region_grow (by kernel_rfl) (by kernel_rfl) ?_
  repeat (go_big_quiet_step ((first | (go_at_call 11; exact Calls.plus_of (k1.out _)) | (go_at_call 12; exact Calls.plus_of (k2.out _)) | (go_at_call 13; exact Calls.plus_of (k3.out _)) | (go_at_call 14; exact Calls.plus_of (k4.out _)) | (go_at_call 15; exact Calls.plus_of (k5.out _)) | (go_at_call 16; exact Calls.plus_of (k6.out _)) | (go_at_call 17; exact Calls.plus_of (kA.out _)))))
  refine wpQuiet_nil ?_
  intro ex
  go_wp2_with fail
  go_ret
  exact ⟨rfl, by (repeat (first | exact Plus.refl _ | apply Plus.plus | apply Plus.alloc | apply Plus.drew))⟩
end Go.Proofs.Ytjfjecjigakdnaa
