/- FrameTurned: walk. -/
import Derived.Test.YtgckipebgcmhlaaDoorAwake
import Derived.Test.YtgckipebgcmhlaaDoorTurn
import Derived.Test.YtgckipebgcmhlaaDoorOwn
import Derived.Laws.IdiomStrings
import Derived.Deep.RegionHeld3
import Derived.Outline
set_option linter.unusedSimpArgs false
set_option linter.unusedVariables false
set_option linter.unnecessarySimpa false
namespace Go.Proofs.YtgckipebgcmhlaaDoor
open Go.RowKit
open Go.Crc hiding step
/-- the bytes as they stand behind n rounds -/
def Zone (size k n : Nat) (L F : List UInt8) : Prop := ∀ j, (j < 3 + k ∨ 3 + k + n ≤ j ∨ (j ≠ 3 + k ∧ 3 + size ≤ j)) → L[j]? = F[j]?
/-- the bytes' cells -/
structure RowU (w : World) (N : Nat) (L : List UInt8) : Prop where
  lt : N < w.heap.size
  cell : ∀ j (h : j < L.length), w.cell? ⟨N, j, none⟩ = some (.int .u8 ((L[j].toNat : Nat) : Int))
  fr : ∀ j, j < L.length → w.frozen? ⟨N, j, none⟩ = false
theorem RowU.start {w1 : World} {N : Nat} {U : ByteArray} {cap : Nat} {t : TypeId} (hN : N = w1.heap.size) :
    RowU (w1.alloc (.cells (bytesRow U cap) t ((bytesRow U cap).size, (bytesRow U cap).size + 1))) N (bytes U) := by
  subst hN
  have hsz : U.data.size ≤ (bytesRow U cap).size := by unfold bytesRow; simp
  refine ⟨by rw [World.size_alloc]; exact Nat.lt_succ_self _, fun j h => ?_, fun j h => ?_⟩
  · have h' : j < U.data.size := by simpa [bytes] using h
    rw [World.cell?_alloc_mark, bytesRow_at U cap j h']
    rfl
  · have h' : j < U.data.size := by simpa [bytes] using h
    rw [World.frozen?_alloc_mark]
    simp; omega
theorem RowU.drew {w : World} {N : Nat} {L : List UInt8} (h : RowU w N L) : RowU w.drew N L := ⟨h.lt, h.cell, h.fr⟩
theorem RowU.set {w : World} {N : Nat} {L : List UInt8} (h : RowU w N L) (p : Nat) (hp : p < L.length) (x : UInt8) : RowU (w.setCell ⟨N, p, none⟩ (.int .u8 ((x.toNat : Nat) : Int))) N (L.set p x) := by
  refine ⟨by rw [World.size_setCell]; exact h.lt, fun j hj => ?_, fun j hj => ?_⟩
  · rw [List.length_set] at hj
    by_cases hjp : p = j
    · subst hjp
      rw [World.cell?_setCell_same w ⟨N, p, none⟩ _ (h.cell p hj)]
      simp
    · rw [World.cell?_setCell_other w ⟨N, p, none⟩ ⟨N, j, none⟩ _ (by simp <;> exact hjp), h.cell j hj, List.getElem_set_ne hjp]
  · rw [World.frozen?_setCell]
    exact h.fr j (by simpa using hj)
def ByC (w : World) (M : Nat) (ys : Nat → UInt8) : Prop := ∀ m, m < 4 → w.cell? ⟨M, m, none⟩ = some (.int .u8 (((ys m).toNat : Nat) : Int))
theorem u8_xor_nat (a b : UInt8) : bits .xor .u8 (a.toNat : Int) (b.toNat : Int) = (((a ^^^ b).toNat : Nat) : Int) := by
  have ha := a.toNat_lt
  have hb := b.toNat_lt
  have hx : a.toNat ^^^ b.toNat < 2 ^ 8 := Nat.xor_lt_two_pow ha hb
  have e : ∀ n : Nat, n < 256 → (BitVec.ofInt 8 (n : Int)).toNat = n := fun n hn => by
    rw [BitVec.ofInt_natCast, BitVec.toNat_ofNat]; exact Nat.mod_eq_of_lt (by omega)
  show IntKind.u8.wrap ((BitVec.ofInt 8 (a.toNat : Int) ^^^ BitVec.ofInt 8 (b.toNat : Int)).toNat : Int) = _
  rw [BitVec.toNat_xor, e _ ha, e _ hb, UInt8.toNat_xor, IntKind.wrap_u8]
  omega
theorem zone_next {size k n : Nat} {L F : List UInt8} (h : Zone size k n L F) (v : UInt8) (hin : n = 0 ∨ k + n < size) : Zone size k (n + 1) (L.set (3 + k + n) v) F := fun j hj => by
  have hne : 3 + k + n ≠ j := by omega
  rw [List.getElem?_set_ne hne]
  exact h j (by omega)
theorem set_ne {L F : List UInt8} {p : Nat} {x y : UInt8} (hl : p < L.length) (hx : L[p] = x) (hf : L[p]? = F[p]?) : L.set p (x ^^^ y) ≠ F ↔ L ≠ F ∨ y ≠ 0 := by
  by_cases hy : y = 0
  · subst hy
    have e : L.set p (x ^^^ 0) = L := by rw [UInt8.xor_zero, ← hx]; exact List.set_getElem_self _
    rw [e]; simp
  · have h1 : L.set p (x ^^^ y) ≠ F := fun h => by
      have h2 := congrArg (·[p]?) h
      simp only [List.getElem?_set_self hl, ← hf, List.getElem?_eq_getElem hl, hx, Option.some.injEq] at h2
      apply hy
      have h3 := congrArg (x ^^^ ·) h2
      simp only [← UInt8.xor_assoc, UInt8.xor_self, UInt8.zero_xor] at h3
      exact h3
    exact ⟨fun _ => .inr hy, fun _ => h1⟩
theorem u8_ne (y : UInt8) : y ≠ 0 ↔ ¬ (y.toNat : Int) = 0 := by
  have h : y = 0 ↔ y.toNat = 0 := ⟨fun h => by rw [h]; rfl, fun h => UInt8.toNat_inj.1 h⟩
  rw [Ne, h]; omega
theorem frameTurned_walk (s : ByteArray) (i : Int) (ys : Nat → UInt8) (w : World) (hT : Nib w) (hs : s.size ≤ 140737488351232)
    (hi : -9223372036854775808 ≤ i ∧ i ≤ 9223372036854775807) :
    Calls Tryd.prog 8 #[.string s, .int .i64 i, .agg #[.int .u8 ((ys 0).toNat : Nat), .int .u8 ((ys 1).toNat : Nat), .int .u8 ((ys 2).toNat : Nat), .int .u8 ((ys 3).toNat : Nat)]] w fun e w' => e = .returned (.bool true) ∧ w.Plus w' := by
  by_cases hl : 100000 < s.size
  · go_enter Tryd.func8, Tryd.ntmps8
    have hl2 : (100000 : Int) < s.size := by omega
    go_wp2_with (first | (go_at_call 10; (with_reducible refine (awake_any _ (hT.plus (by (repeat (first | exact Plus.refl _ | apply Plus.plus | apply Plus.alloc | apply Plus.drew))))).mono ?_); rintro e w' ⟨rfl, ey, rfl⟩))
    go_ret
    exact ⟨rfl, by (repeat (first | exact Plus.refl _ | apply Plus.plus | apply Plus.alloc | apply Plus.drew))⟩
  · have hl2 : ¬ (100000 : Int) < s.size := by omega
    by_cases h6 : 65536 < s.size
    · have hF := fun w => frame_long s w hs h6
      go_enter Tryd.func8, Tryd.ntmps8
      go_wp2_with (first | (go_at_call 13; (with_reducible refine (hF _).mono ?_); rintro e w' ⟨rfl, ez, rfl⟩) | (go_at_call 10; (with_reducible refine (awake_any _ (hT.plus (by (repeat (first | exact Plus.refl _ | apply Plus.plus | apply Plus.alloc | apply Plus.drew))))).mono ?_); rintro e w' ⟨rfl, ey, rfl⟩))
      go_ret
      exact ⟨rfl, by (repeat (first | exact Plus.refl _ | apply Plus.plus | apply Plus.alloc | apply Plus.drew))⟩
    · have hF := fun w hT => frame_short s w hT (by omega)
      have hfs : (txt (framed (bytes s))).size = s.size + 7 := by rw [txt_size, framed_length, bytes_length]; omega
      obtain ⟨d, hd1, hd⟩ : ∃ d : Int, i.tmod ((s.size : Int) + 4) = d ∧ (-(s.size : Int) - 3 ≤ d ∧ d ≤ (s.size : Int) + 3) := ⟨_, rfl, by
        have h1 := Int.lt_tmod_of_pos i (show (0 : Int) < (s.size : Int) + 4 by omega)
        have h2 := Int.tmod_lt_of_pos i (show (0 : Int) < (s.size : Int) + 4 by omega)
        omega⟩
      obtain ⟨k, hk1, hk⟩ : ∃ k : Nat, (d + s.size + 4).tmod ((s.size : Int) + 4) = k ∧ k < s.size + 4 := by
        have h0 : (0 : Int) ≤ d + s.size + 4 := by omega
        rw [Int.tmod_eq_emod_of_nonneg h0]
        have h1 := Int.emod_nonneg (d + s.size + 4) (show (s.size : Int) + 4 ≠ 0 by omega)
        have h2 := Int.emod_lt_of_pos (d + s.size + 4) (show (0 : Int) < (s.size : Int) + 4 by omega)
        exact ⟨((d + s.size + 4) % ((s.size : Int) + 4)).toNat, by omega, by omega⟩
      have hne : ¬ ((s.size : Int) + 4 = 0) := by omega
      have hconv := fun w => run_bytes_of_string (P := Tryd.prog) w 9 45 5 (txt (framed (bytes s))) (by kernel_rfl) (by kernel_rfl) (by kernel_rfl)
      rw [hfs] at hconv
      generalize hU : txt (framed (bytes s)) = U at *
      go_enter Tryd.func8, Tryd.ntmps8
      go_wp2_with (first | (go_at_call 13; (with_reducible refine (hF _ (hT.plus (by (repeat (first | exact Plus.refl _ | apply Plus.plus | apply Plus.alloc | apply Plus.drew))))).mono ?_); rintro e w' ⟨rfl, ez, rfl⟩) | (go_at_call 10; (with_reducible refine (awake_any _ (hT.plus (by (repeat (first | exact Plus.refl _ | apply Plus.plus | apply Plus.alloc | apply Plus.drew))))).mono ?_); rintro e w' ⟨rfl, ey, rfl⟩))
      have hUl : (bytes U).length = s.size + 7 := by rw [bytes_length, hfs]
      go_loopw [11, 12] (fun t i wr => ∃ (n : Nat) (tr : Bool) (L : List UInt8), n ≤ 4 ∧ i = .int .i64 n ∧ t = .bool tr ∧ L.length = s.size + 7 ∧ Zone s.size k n L (bytes U) ∧ (tr = true ↔ L ≠ bytes U) ∧ RowU wr (w.heap.size + 1 + ez.objs.size) L ∧ ByC wr w.heap.size ys ∧ w.Plus wr) (fun _ i _ => 4 - (intOf i).toNat)
      case atStart =>
        refine ⟨0, false, bytes U, by omega, rfl, rfl, hUl, fun j _ => rfl, by simp, RowU.start (by simp [go_sem]), ?_, by (repeat (first | exact Plus.refl _ | apply Plus.plus | apply Plus.alloc | apply Plus.drew))⟩
        intro m hm
        obtain rfl | rfl | rfl | rfl : m = 0 ∨ m = 1 ∨ m = 2 ∨ m = 3 := by omega
        all_goals simp [go_sem]
      case round =>
        obtain ⟨n, tr, L, hn4, rfl, rfl, hLl, hz, htr, hrow, hby, hp⟩ := hrel
        generalize hN : w.heap.size + 1 + ez.objs.size = N at hrow
        by_cases hgo : n < 4 ∧ (n = 0 ∨ k < s.size)
        · obtain ⟨hn, hor⟩ := hgo
          by_cases hin : n = 0 ∨ k + n < s.size
          · -- a byte is turned
            rcases Nat.eq_zero_or_pos n with hn0 | hn0
            · subst hn0
              have hpl : 3 + k < L.length := by omega
              have cP := hrow.cell (3 + k) hpl
              have fP := hrow.fr (3 + k) hpl
              have cB := hby 0 (by omega)
              haveI : InW N wr := ⟨hrow.lt⟩
              haveI : InW w.heap.size wr := ⟨World.block_lt_of_cell? wr _ cB⟩
              have hnew := hrow.drew.set (3 + k) hpl (L[3 + k] ^^^ ys 0)
              have hset := set_ne (y := ys 0) hpl rfl (hz (3 + k) (by omega))
              have hz2 := zone_next hz (L[3 + k] ^^^ ys 0) (.inl rfl)
              have hy0 := u8_ne (ys 0)
              have hX := u8_xor_nat L[3 + k] (ys 0)
              generalize hv : L[3 + k] ^^^ ys 0 = v at hnew hset hz2 hX
              have hby2 : ∀ m, m < 4 → (wr.drew.setCell ⟨N, 3 + k, none⟩ (.int .u8 ((v.toNat : Nat) : Int))).cell? ⟨w.heap.size, m, none⟩ = some (.int .u8 (((ys m).toNat : Nat) : Int)) := fun m hm => by
                rw [World.cell?_setCell_other wr.drew ⟨N, 3 + k, none⟩ ⟨w.heap.size, m, none⟩ _ (by simp <;> omega)]
                exact hby m hm
              have cB2 := hby2 0 (by omega)
              have hp2 : w.Plus (wr.drew.setCell ⟨N, 3 + k, none⟩ (.int .u8 ((v.toNat : Nat) : Int))) := plus_of_below (Below.setCell (Plus.below (Plus.drew hp)) (show w.heap.size ≤ N by omega) _)
              have w1 : IntKind.i64.wrap ((3 : Int) + k) = 3 + k := by rw [IntKind.wrap_i64]; omega
              have w2 : IntKind.i64.wrap ((3 : Int) + k) = (3 : Int) + k := by rw [IntKind.wrap_i64]; omega
              have p1 : (0 : Int) ≤ (3 : Int) + k := by omega
              have p2 : (3 : Int) + k < (s.size : Int) + 7 := by omega
              have p3 : ((3 : Int) + k).toNat = 3 + k := by omega
              have xl := L[3 + k].toNat_lt
              have yl := (ys 0).toNat_lt
              have vl := v.toNat_lt
              generalize L[3 + k].toNat = x at cP hX xl
              generalize (ys 0).toNat = y at cB cB2 hX yl hy0
              generalize hvn : v.toNat = vn at hX vl cB2
              replace hz := Lib.hid hz
              replace htr := Lib.hid htr
              replace hrow := Lib.hid hrow
              replace hby := Lib.hid hby
              replace hby2 := Lib.hid hby2
              replace hset := Lib.hid hset
              replace hnew := Lib.hid hnew
              replace hz2 := Lib.hid hz2
              replace hvn := Lib.hid hvn
              replace hv := Lib.hid hv
              replace hp2 := Lib.hid hp2
              replace hy0 := Lib.hid hy0
              go_wp2
              go_region
              have hnew' := hnew.out
              have hp2' := hp2.out
              have hby2' := hby2.out
              simp only [hvn.out] at hnew' hp2' hby2'
              replace hnew' := Lib.hid hnew'
              replace hp2' := Lib.hid hp2'
              replace hby2' := Lib.hid hby2'
              cases tr
              · by_cases hyz : (y : Int) = 0
                · go_wp2
                  refine ⟨⟨0 + 1, false, L.set (3 + k) v, by omega, by simp, by simp [hyz], by simp [hLl], hz2.out, by rw [hset.out, ← htr.out, hy0.out]; simp [hyz], hnew'.out, hby2'.out, hp2'.out⟩, by simp [intOf] <;> omega⟩
                · go_wp2
                  refine ⟨⟨0 + 1, true, L.set (3 + k) v, by omega, by simp, by simp <;> omega, by simp [hLl], hz2.out, by rw [hset.out, ← htr.out, hy0.out]; simp <;> omega, hnew'.out, hby2'.out, hp2'.out⟩, by simp [intOf] <;> omega⟩
              · go_wp2
                refine ⟨⟨0 + 1, true, L.set (3 + k) v, by omega, by simp, by simp, by simp [hLl], hz2.out, by rw [hset.out, ← htr.out, hy0.out]; simp, hnew'.out, hby2'.out, hp2'.out⟩, by simp [intOf] <;> omega⟩
            · have hor2 : k < s.size := by omega
              have hin2 : k + n < s.size := by omega
              have b0 : ((n : Int) == 0) = false := by simp; omega
              have b0' : ¬ (n : Int) = 0 := by omega
              have b1 : (k : Int) + n < s.size := by omega
              have b2 : (n : Int) < 4 := by omega
              have b3 : (k : Int) < s.size := by omega
              have hpl : 3 + k + n < L.length := by omega
              have cP := hrow.cell (3 + k + n) hpl
              have fP := hrow.fr (3 + k + n) hpl
              have cB := hby n (by omega)
              haveI : InW N wr := ⟨hrow.lt⟩
              haveI : InW w.heap.size wr := ⟨World.block_lt_of_cell? wr _ cB⟩
              have hnew := hrow.drew.set (3 + k + n) hpl (L[3 + k + n] ^^^ ys n)
              have hset := set_ne (y := ys n) hpl rfl (hz (3 + k + n) (by omega))
              have hz2 := zone_next hz (L[3 + k + n] ^^^ ys n) hin
              have hy0 := u8_ne (ys n)
              have hX := u8_xor_nat L[3 + k + n] (ys n)
              generalize hv : L[3 + k + n] ^^^ ys n = v at hnew hset hz2 hX
              have hby2 : ∀ m, m < 4 → (wr.drew.setCell ⟨N, 3 + k + n, none⟩ (.int .u8 ((v.toNat : Nat) : Int))).cell? ⟨w.heap.size, m, none⟩ = some (.int .u8 (((ys m).toNat : Nat) : Int)) := fun m hm => by
                rw [World.cell?_setCell_other wr.drew ⟨N, 3 + k + n, none⟩ ⟨w.heap.size, m, none⟩ _ (by simp <;> omega)]
                exact hby m hm
              have cB2 := hby2 n (by omega)
              have hp2 : w.Plus (wr.drew.setCell ⟨N, 3 + k + n, none⟩ (.int .u8 ((v.toNat : Nat) : Int))) := plus_of_below (Below.setCell (Plus.below (Plus.drew hp)) (show w.heap.size ≤ N by omega) _)
              have w1 : IntKind.i64.wrap ((3 : Int) + k) = 3 + k := by rw [IntKind.wrap_i64]; omega
              have w2 : IntKind.i64.wrap ((3 : Int) + k + n) = (3 : Int) + k + n := by rw [IntKind.wrap_i64]; omega
              have p1 : (0 : Int) ≤ (3 : Int) + k + n := by omega
              have p2 : (3 : Int) + k + n < (s.size : Int) + 7 := by omega
              have p3 : ((3 : Int) + k + n).toNat = 3 + k + n := by omega
              have xl := L[3 + k + n].toNat_lt
              have yl := (ys n).toNat_lt
              have vl := v.toNat_lt
              generalize L[3 + k + n].toNat = x at cP hX xl
              generalize (ys n).toNat = y at cB cB2 hX yl hy0
              generalize hvn : v.toNat = vn at hX vl cB2
              replace hz := Lib.hid hz
              replace htr := Lib.hid htr
              replace hrow := Lib.hid hrow
              replace hby := Lib.hid hby
              replace hby2 := Lib.hid hby2
              replace hset := Lib.hid hset
              replace hnew := Lib.hid hnew
              replace hz2 := Lib.hid hz2
              replace hvn := Lib.hid hvn
              replace hv := Lib.hid hv
              replace hp2 := Lib.hid hp2
              replace hy0 := Lib.hid hy0
              go_wp2
              go_region
              have hnew' := hnew.out
              have hp2' := hp2.out
              have hby2' := hby2.out
              simp only [hvn.out] at hnew' hp2' hby2'
              replace hnew' := Lib.hid hnew'
              replace hp2' := Lib.hid hp2'
              replace hby2' := Lib.hid hby2'
              cases tr
              · by_cases hyz : (y : Int) = 0
                · go_wp2
                  refine ⟨⟨n + 1, false, L.set (3 + k + n) v, by omega, by simp, by simp [hyz], by simp [hLl], hz2.out, by rw [hset.out, ← htr.out, hy0.out]; simp [hyz], hnew'.out, hby2'.out, hp2'.out⟩, by simp [intOf] <;> omega⟩
                · go_wp2
                  refine ⟨⟨n + 1, true, L.set (3 + k + n) v, by omega, by simp, by simp <;> omega, by simp [hLl], hz2.out, by rw [hset.out, ← htr.out, hy0.out]; simp <;> omega, hnew'.out, hby2'.out, hp2'.out⟩, by simp [intOf] <;> omega⟩
              · go_wp2
                refine ⟨⟨n + 1, true, L.set (3 + k + n) v, by omega, by simp, by simp, by simp [hLl], hz2.out, by rw [hset.out, ← htr.out, hy0.out]; simp, hnew'.out, hby2'.out, hp2'.out⟩, by simp [intOf] <;> omega⟩
          · have hin0 : ¬ n = 0 := fun h => hin (.inl h)
            have hk0 : k < s.size := by omega
            have b0 : ((n : Int) == 0) = false := by simp; omega
            have b0' : ¬ (n : Int) = 0 := by omega
            have b1 : ¬ (k : Int) + n < s.size := by omega
            have b2 : (n : Int) < 4 := by omega
            have b3 : (k : Int) < s.size := by omega
            replace hz := Lib.hid hz
            replace htr := Lib.hid htr
            replace hrow := Lib.hid hrow
            replace hby := Lib.hid hby
            go_wp2
            refine ⟨⟨n + 1, tr, L, hn, by simp, rfl, hLl, fun j hj => hz.out j (by omega), htr.out, hrow.out, hby.out, hp⟩, ?_⟩
            simp [intOf]; omega
        · have hFU : bytes U = framed (bytes s) := by rw [← hU, bytes_txt]
          have hbl := bytes_length s
          have hcv : ∀ cap, (convert 45 9 (.slice (some ⟨N, 0, none⟩) (s.size + 7) cap)).run Tryd.prog wr = .ok (.string (txt L)) wr := fun cap => by
            have := run_convert_bytes_back (P := Tryd.prog) wr 45 9 5 ⟨N, 0, none⟩ cap L (by kernel_rfl) (by kernel_rfl) (by kernel_rfl) (fun j hj => by
              have := hrow.cell j hj
              by_cases h0 : j = 0
              · subst h0; simpa [Addr.add] using this
              · simpa [Addr.add, h0] using this)
            rwa [hLl] at this
          have hFi : ∀ w, Nib w → Calls Tryd.prog 15 #[.string (txt L), .int .i64 0] w fun e w' => e = .returned (firstV (txt L) 0) ∧ w.Plus w' := fun w hT => first_any (txt L) 0 w hT (by rw [txt_size, hLl]; omega) (Nat.zero_le _)
          have hexit : (n = 4) ∨ (0 < n ∧ n < 4 ∧ s.size ≤ k) := by omega
          obtain ⟨e0, rfl⟩ := hp
          cases tr
          · have hLU : L = bytes U := Classical.byContradiction fun h => by simpa using htr.2 h
            rw [hLU, hFU, framed_code _ (by omega), ← hFU, ← hLU, txt_bytes, hbl, show 7 + s.size = s.size + 7 by omega] at hFi
            clear hLU hFU htr hz hrow hby
            generalize txt L = LL at hcv hFi
            rcases hexit with rfl | ⟨h1, h2, h3⟩
            · skip
              go_wp2_with (first | (go_at_call 15; (with_reducible refine (hFi _ (hT.plus (by (repeat (first | exact Plus.refl _ | apply Plus.plus | apply Plus.alloc | apply Plus.drew))))).mono ?_); rintro e w' ⟨rfl, e1, rfl⟩) | (go_at_call 10; (with_reducible refine (awake_any _ (hT.plus (by (repeat (first | exact Plus.refl _ | apply Plus.plus | apply Plus.alloc | apply Plus.drew))))).mono ?_); rintro e w' ⟨rfl, ey, rfl⟩))
              go_ret
              exact ⟨rfl, by (repeat (first | exact Plus.refl _ | apply Plus.plus | apply Plus.alloc | apply Plus.drew))⟩
            · have b0 : ((n : Int) == 0) = false := by simp; omega
              have b0' : ¬ (n : Int) = 0 := by omega
              have b2 : (n : Int) < 4 := by omega
              have b3 : ¬ (k : Int) < s.size := by omega
              go_wp2_with (first | (go_at_call 15; (with_reducible refine (hFi _ (hT.plus (by (repeat (first | exact Plus.refl _ | apply Plus.plus | apply Plus.alloc | apply Plus.drew))))).mono ?_); rintro e w' ⟨rfl, e1, rfl⟩) | (go_at_call 10; (with_reducible refine (awake_any _ (hT.plus (by (repeat (first | exact Plus.refl _ | apply Plus.plus | apply Plus.alloc | apply Plus.drew))))).mono ?_); rintro e w' ⟨rfl, ey, rfl⟩))
              go_ret
              exact ⟨rfl, by (repeat (first | exact Plus.refl _ | apply Plus.plus | apply Plus.alloc | apply Plus.drew))⟩
          · have hLU : L ≠ framed (bytes s) := by rw [← hFU]; exact htr.1 rfl
            have hcode := turned_code (bytes s) L k (by omega) (by rw [hLl, framed_length]; omega) (by omega) (fun j hj => by
              rw [← hFU]
              exact hz j (by omega)) hLU
            have hV : firstV (txt L) 0 = .tuple #[.string (txt []), .int .i64 0, .int .i64 3] := by simp [firstV, hcode]
            rw [hV, show txt [] = ⟨#[]⟩ from rfl] at hFi
            clear hLU hFU htr hz hrow hby hcode hV
            generalize txt L = LL at hcv hFi
            rcases hexit with rfl | ⟨h1, h2, h3⟩
            · skip
              go_wp2_with (first | (go_at_call 15; (with_reducible refine (hFi _ (hT.plus (by (repeat (first | exact Plus.refl _ | apply Plus.plus | apply Plus.alloc | apply Plus.drew))))).mono ?_); rintro e w' ⟨rfl, e1, rfl⟩) | (go_at_call 10; (with_reducible refine (awake_any _ (hT.plus (by (repeat (first | exact Plus.refl _ | apply Plus.plus | apply Plus.alloc | apply Plus.drew))))).mono ?_); rintro e w' ⟨rfl, ey, rfl⟩))
              go_ret
              exact ⟨rfl, by (repeat (first | exact Plus.refl _ | apply Plus.plus | apply Plus.alloc | apply Plus.drew))⟩
            · have b0 : ((n : Int) == 0) = false := by simp; omega
              have b0' : ¬ (n : Int) = 0 := by omega
              have b2 : (n : Int) < 4 := by omega
              have b3 : ¬ (k : Int) < s.size := by omega
              go_wp2_with (first | (go_at_call 15; (with_reducible refine (hFi _ (hT.plus (by (repeat (first | exact Plus.refl _ | apply Plus.plus | apply Plus.alloc | apply Plus.drew))))).mono ?_); rintro e w' ⟨rfl, e1, rfl⟩) | (go_at_call 10; (with_reducible refine (awake_any _ (hT.plus (by (repeat (first | exact Plus.refl _ | apply Plus.plus | apply Plus.alloc | apply Plus.drew))))).mono ?_); rintro e w' ⟨rfl, ey, rfl⟩))
              go_ret
              exact ⟨rfl, by (repeat (first | exact Plus.refl _ | apply Plus.plus | apply Plus.alloc | apply Plus.drew))⟩
end Go.Proofs.YtgckipebgcmhlaaDoor
