/- session: posts that are told, as rows; the reference's Same: walk. -/
import Derived.Test.YtpmebmbibajcoaaSesC
set_option linter.unusedSimpArgs false
set_option linter.unusedVariables false
namespace Go.Proofs.Ytpmebmbibajcoaa
open Go.RowKit
abbrev po0 : Post := ⟨0, 0, 0, 0, ⟨#[]⟩⟩
def postRow (ps : List Post) (i j : Nat) : Value := (ps.getD i po0).cs.getD j (.bool false)
theorem Own.rows {W wx : World} {l : List Asn} {A : Option Addr} {cap n : Nat} {ps : List Post} (i : Nat) (o : Own W wx l) (hi : l[i]? = some (slA 5 (.slice A n cap) n (postCs ps))) (hn : n = ps.length) : RowsAt wx A 5 n (postRow ps) :=
  (o.sl i hi).rows rfl _ fun i j h1 h2 => by
    have h3 : ps[i]? = some (ps.getD i po0) := by
      rw [List.getD_eq_getElem?_getD, List.getElem?_eq_getElem (by omega)]
      rfl
    rw [postCs_get ps i _ j h3 h2]
    have h5 : (ps.getD i po0).cs.length = 5 := rfl
    unfold postRow
    generalize (ps.getD i po0).cs = l at *
    rw [List.getElem?_eq_getElem (by omega), List.getD_eq_getElem?_getD, List.getElem?_eq_getElem (by omega)]
    rfl
theorem rows_post {wx : World} {A : Option Addr} {n : Nat} {ps : List Post} (h : RowsAt wx A 5 n (postRow ps)) (k : Nat) (hk : k < n) : ∃ g o, A = some ⟨g, o, none⟩ ∧ g < wx.heap.size ∧
    wx.cell? ⟨g, o + k * 5, none⟩ = some (.int .i64 (ps.getD k po0).mine) ∧ wx.cell? ⟨g, o + k * 5 + 1, none⟩ = some (.int .i64 (ps.getD k po0).yours) ∧ wx.cell? ⟨g, o + k * 5 + 2, none⟩ = some (.int .i64 (ps.getD k po0).ack) ∧ wx.cell? ⟨g, o + k * 5 + 3, none⟩ = some (.int .i64 (ps.getD k po0).seq) ∧ wx.cell? ⟨g, o + k * 5 + 4, none⟩ = some (.string (ps.getD k po0).text) := by
  obtain ⟨g, o, rfl, hl, hc⟩ := h (by omega)
  exact ⟨g, o, rfl, hl, hc k 0 hk (by omega), hc k 1 hk (by omega), hc k 2 hk (by omega), hc k 3 hk (by omega), hc k 4 hk (by omega)⟩
set_option maxRecDepth 100000 in
theorem same_eq (ps : List Post) (A B : Option Addr) (c d n : Nat) (w : World) (hn : n ≤ 1000000) (ha : RowsAt w A 5 n (postRow ps)) (hb : RowsAt w B 5 n (postRow ps)) :
    Calls Try.prog 15 #[.slice A n c, .slice B n d] w fun e w' => e = .returned (.bool true) ∧ w.Plus w' := by
  go_enter Try.func15, Try.ntmps15
  go_wp2
  go_loopw [5] (fun i wr => ∃ k : Nat, k ≤ n ∧ i = .int .i64 k ∧ w.Plus wr) (fun i _ => n - (intOf i).toNat)
  case atStart => exact ⟨0, Nat.zero_le _, rfl, by (repeat (first | exact Plus.refl _ | apply Plus.plus | apply Plus.alloc | apply Plus.drew))⟩
  case round =>
    obtain ⟨k, hk, rfl, e, rfl⟩ := hrel
    by_cases hlt : k < n
    · obtain ⟨b1, o1, rfl, hb1, a0, a1, a2, a3, a4⟩ := rows_post ha k hlt
      obtain ⟨b2, o2, rfl, hb2, d0, d1, d2, d3, d4⟩ := rows_post hb k hlt
      clear ha hb
      haveI : InW b1 w := ⟨hb1⟩
      haveI : InW b2 w := ⟨hb2⟩
      generalize ps.getD k po0 = y at *
      obtain ⟨y0, y1, y2, y3, y4⟩ := y
      simp only at a0 a1 a2 a3 a4 d0 d1 d2 d3 d4
      go_wp2
      go_region
      go_wp2
      go_roundw
      case rel => exact ⟨k + 1, hlt, by simp, by (repeat (first | exact Plus.refl _ | apply Plus.plus | apply Plus.alloc | apply Plus.drew))⟩
      case measure => simp [intOf]; omega
    · have hke : k = n := by omega
      subst hke
      go_wp2
      go_ret
      exact ⟨rfl, by (repeat (first | exact Plus.refl _ | apply Plus.plus | apply Plus.alloc | apply Plus.drew))⟩
end Go.Proofs.Ytpmebmbibajcoaa
