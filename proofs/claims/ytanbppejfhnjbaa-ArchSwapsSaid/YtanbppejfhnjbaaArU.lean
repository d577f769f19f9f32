/- arch: lists of deeds; ArchPlays: walk. -/
import Derived.Test.YtanbppejfhnjbaaArQ
set_option linter.unusedSimpArgs false
set_option linter.unusedVariables false
namespace Go.Proofs.Ytanbppejfhnjbaa
open Go.RowKit
abbrev d0 : DeedR := ⟨0, bd0⟩
def dRow (ds : List DeedR) (i j : Nat) : Value := (ds.getD i d0).cs.getD j (.bool false)
/-- a deed's cells -/
structure D12 (w : World) (g p : Nat) (x : DeedR) : Prop where
  c0 : w.cell? ⟨g, p, none⟩ = some (nI x.k)
  c1 : w.cell? ⟨g, p + 1, none⟩ = some (nI x.b.id.s)
  c2 : w.cell? ⟨g, p + 2, none⟩ = some (nI x.b.id.i)
  c3 : w.cell? ⟨g, p + 3, none⟩ = some (nI x.b.id.g)
  c4 : w.cell? ⟨g, p + 4, none⟩ = some (nI x.b.mask)
  c5 : w.cell? ⟨g, p + 5, none⟩ = some (nI x.b.x)
  c6 : w.cell? ⟨g, p + 6, none⟩ = some (nI x.b.y)
  c7 : w.cell? ⟨g, p + 7, none⟩ = some (nI x.b.vx)
  c8 : w.cell? ⟨g, p + 8, none⟩ = some (nI x.b.vy)
  c9 : w.cell? ⟨g, p + 9, none⟩ = some (nI x.b.hp)
  c10 : w.cell? ⟨g, p + 10, none⟩ = some (nI x.b.pw)
  c11 : w.cell? ⟨g, p + 11, none⟩ = some (nI x.b.lf)
theorem deed_at {w : World} {A : Option Addr} {n : Nat} {ds : List DeedR} (h : RowsAt w A 12 n (dRow ds)) (k : Nat) (hk : k < n) (x : DeedR) (hx : ds[k]? = some x) : ∃ g o, A = some ⟨g, o, none⟩ ∧ InW g w ∧ D12 w g (o + k * 12) x := by
  obtain ⟨g, o, rfl, hl, hc⟩ := h (by omega)
  have key : ∀ j, j < 12 → w.cell? ⟨g, o + k * 12 + j, none⟩ = x.cs[j]? := fun j hj => by
    rw [Nat.add_assoc, hc k j hk hj]
    unfold dRow
    have e : ds.getD k d0 = x := by rw [List.getD_eq_getElem?_getD, hx]; rfl
    rw [e]
    have h12 : x.cs.length = 12 := rfl
    rw [List.getD_eq_getElem?_getD, List.getElem?_eq_getElem (by rw [h12]; exact hj)]
    rfl
  exact ⟨g, o, rfl, ⟨hl⟩, key 0 (by omega), key 1 (by omega), key 2 (by omega), key 3 (by omega), key 4 (by omega), key 5 (by omega), key 6 (by omega), key 7 (by omega), key 8 (by omega), key 9 (by omega), key 10 (by omega), key 11 (by omega)⟩
def runT (ds : List DeedR) : Tabs := ds.foldl stepT (fun _ => [])
theorem runT_snoc (ds : List DeedR) (x : DeedR) : runT (ds ++ [x]) = stepT (runT ds) x := by unfold runT; rw [List.foldl_append]; rfl
theorem run_good (ds : List DeedR) : GoodT (runT ds) ∧ Cln (runT ds) ∧ total (runT ds) ≤ ds.length := by
  refine snoc_ind (p := fun ds => GoodT (runT ds) ∧ Cln (runT ds) ∧ total (runT ds) ≤ ds.length) ⟨good_none, cln_none, by show total (fun _ => []) ≤ 0; rw [total0]; exact Nat.le_refl _⟩ (fun l x ih => ?_) ds
  rw [runT_snoc, List.length_append, List.length_singleton]
  have := total_stepT (runT l) x
  exact ⟨good_stepT ih.1 x, cln_stepT ih.2.1 x, by omega⟩
theorem take_snoc {α : Type} {l : List α} {i : Nat} {x : α} (h : l[i]? = some x) : l.take (i + 1) = l.take i ++ [x] := by rw [List.take_add_one, h]; rfl
/-- a reference's store, laid by '&Store{}' -/
theorem ref_box (W w : World) (l : List Asn) (h : Own W w l) : Own W (w.alloc (.cells (rcellsL (fun _ => (none, 0)) (fun _ => [])).toArray 50)) (refA w.heap.size (fun _ => []) :: l) := ref_shut (ref_new h)
theorem rows_hA {w : World} {A : Option Addr} {size n : Nat} {f : Nat → Nat → Value} (h : RowsAt w A size n f) : 0 < n → ∃ g o, A = some ⟨g, o, none⟩ := fun h0 => by
  obtain ⟨g, o, hA, _⟩ := h h0
  exact ⟨g, o, hA⟩
set_option maxRecDepth 1000000 in
set_option maxHeartbeats 400000 in
theorem plays_any (W : World) (ds : List DeedR) (A : Option Addr) (cp : Nat) (hc : ds.length ≤ cp) (hn : cp ≤ 9223372036854775807) (hr : RowsAt W A 12 ds.length (dRow ds)) (hid : ∀ d ∈ ds, IdW d.b.id) :
    Calls Try.prog 5 #[.slice A ds.length cp] W fun e w' => e = .returned (.bool true) ∧ W.Plus w' := by
  have hz := refZero
  have k0 := Lib.hid (new_store (Own.start W))
  have kb := Lib.hid (ref_box W)
  obtain ⟨cs0, hcs0⟩ : ∃ cs0, cs0 = (rcellsL (fun _ => (none, 0)) (fun _ => [])).toArray := ⟨_, rfl⟩
  rw [← hcs0] at hz kb
  clear hcs0
  have kF := Lib.hid (fun w => few_any A ds.length cp w hc (by omega) (rows_hA hr))
  obtain ⟨m, hm⟩ : ∃ m, m = min ds.length 60 := ⟨_, rfl⟩
  rw [← hm] at kF
  have hmb : m ≤ 60 ∧ m ≤ ds.length := by omega
  obtain ⟨hm60, hmd⟩ := hmb
  replace hr := Lib.hid hr
  replace hid := Lib.hid hid
  replace hm := Lib.hid hm
  go_enter Try.func5, Try.ntmps5
  go_upto_region 5 with (first
    | (go_at_call 18; (with_reducible refine k0.out.mono ?_); rintro e w1 ⟨S, rfl, O1⟩; have OB := Lib.hid (kb.out _ _ O1); clear O1)
    | (go_at_call 20; (with_reducible refine (kF.out _).mono ?_); rintro e w2 ⟨rfl, e2, rfl⟩))
  have O1 : Own W ((w1.alloc (.cells cs0 50)).plus e2) (storeA S (runT []) :: refA w1.heap.size (runT []) :: []) := (OB.out.plus e2).rot1
  generalize w1.heap.size = R at *
  generalize (w1.alloc (.cells cs0 50)).plus e2 = w3 at *
  clear OB k0 kb hz kF
  replace O1 := Lib.hid O1
  go_wp2_with fail
  go_loopw [5] (fun v wr => ∃ i : Nat, i ≤ m ∧ v = nI i ∧ Own W wr (storeA S (runT (ds.take i)) :: refA R (runT (ds.take i)) :: [])) (fun v _ => m - (intOf v).toNat)
  case atStart => exact ⟨0, by omega, rfl, O1.out⟩
  case round =>
    clear O1
    obtain ⟨i, hi, rfl, O2⟩ := hrel
    by_cases hlt : i < m
    · have hlti : (i : Int) < m := by omega
      obtain ⟨x, hx⟩ : ∃ x, ds[i]? = some x := ⟨_, List.getElem?_eq_getElem (by omega)⟩
      have hrw := hr.out.plus O2.p
      obtain ⟨g, o, rfl, hg, hD⟩ := deed_at hrw i (by omega) x hx
      have hgW : g < W.heap.size := by
        obtain ⟨g', o', he, hl, _⟩ := hr.out (by omega)
        cases he
        exact hl
      obtain ⟨G, C, hT⟩ := run_good (ds.take i)
      rw [List.length_take] at hT
      have hidx := hid.out x (List.mem_of_getElem? hx)
      have ht2 := total_stepT (runT (ds.take i)) x
      have G2 := good_stepT G x
      have k21 := Lib.hid (step_O O2 G G x hidx (by omega) (by omega))
      have e1 : runT (ds.take (i + 1)) = stepT (runT (ds.take i)) x := by rw [take_snoc hx, runT_snoc]
      rw [← e1] at k21 ht2 G2
      obtain ⟨T2, hT2⟩ : ∃ T2, T2 = runT (ds.take (i + 1)) := ⟨_, rfl⟩
      rw [← hT2] at k21 ht2 G2
      replace hT2 := Lib.hid hT2.symm
      have k22 := Lib.hid (fun wz (O : Own W wz (storeA S T2 :: refA R T2 :: [])) => alike_O O G2 (by omega))
      have k13 := fun wz (O : Own W wz (storeA S T2 :: refA R T2 :: [])) => get_store O G2 x.b.id hidx (by omega)
      have k23 := fun wz (O : Own W wz (storeA S T2 :: refA R T2 :: [])) => refGetS O.rot1 G2 x.b.id (by omega)
      generalize getS T2 x.b.id = bg at *
      generalize (findT T2 x.b.id).isSome = z at *
      generalize (findT T2 x.b.id).elim 0 Prod.snd = rw1 at *
      replace k13 := Lib.hid k13
      replace k23 := Lib.hid k23
      obtain ⟨a0, a1, a2, a3, a4, a5, a6, a7, a8, a9, a10, a11⟩ := hD
      have hDW := Lib.hid (fun w' (p : W.Plus w') => deed_at (hr.out.plus p) i (by omega) x hx)
      replace O2 := Lib.hid O2
      clear hrw hx hidx ht2 e1 G C G2 hT
      go_upto_region 10 with (first
        | (go_at_call 21; (with_reducible refine k21.out.mono ?_); rintro e w5 ⟨v, hv, rfl, O5⟩; obtain rfl : v = true := hv rfl; clear hv; replace O5 := Lib.hid O5)
        | (go_at_call 22; (with_reducible refine (k22.out _ O5.out).mono ?_); rintro e w6 ⟨rfl, O6⟩))
      obtain ⟨g', o', he, hg6, hD⟩ := hDW.out w6 O6.p
      cases he
      clear a0 a1 a2 a3 a4 a5 a6 a7 a8 a9 a10 a11 hg k21 k22 O2 O5 hDW
      obtain ⟨a0, a1, a2, a3, a4, a5, a6, a7, a8, a9, a10, a11⟩ := hD
      have q13 := Lib.hid (fun wz (p : w6.Plus wz) => k13.out wz (Own.atP O6 wz p))
      have q23 := Lib.hid (fun wz (p : w6.Plus wz) => k23.out wz (Own.atP O6 wz p))
      clear k13 k23
      replace O6 := Lib.hid O6
      have hz : (z != z) = false := by cases z <;> rfl
      go_wp2_with (first
        | (go_at_call 13; (with_reducible refine (q13.out _ (by (repeat (first | exact Plus.refl _ | apply Plus.plus | apply Plus.alloc | apply Plus.drew)))).mono ?_); rintro e w' ⟨rfl, e7, rfl⟩)
        | (go_at_call 23; (with_reducible refine (q23.out _ (by (repeat (first | exact Plus.refl _ | apply Plus.plus | apply Plus.alloc | apply Plus.drew)))).mono ?_); rintro e w' ⟨rfl, e8, rfl⟩))
      go_roundw
      case rel => exact ⟨i + 1, hlt, by go_num, by rw [hT2.out]; exact Own.atP O6.out _ (by (repeat (first | exact Plus.refl _ | apply Plus.plus | apply Plus.alloc | apply Plus.drew)))⟩
      case measure => simp [intOf]; omega
    · obtain rfl : i = m := by omega
      have hp := Lib.hid O2.p
      clear O2
      go_wp2_with (go_at_call 17; (with_reducible refine (awake_any _).mono ?_); rintro e w' ⟨rfl, e9, rfl⟩)
      go_ret
      exact ⟨rfl, Plus.plus hp.out e9⟩
end Go.Proofs.Ytanbppejfhnjbaa
