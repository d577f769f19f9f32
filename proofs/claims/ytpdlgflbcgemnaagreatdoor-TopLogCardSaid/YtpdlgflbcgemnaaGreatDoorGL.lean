/- Plain laws and walks: LogP, LogQ, LogR. -/
import Derived.Test.YtpdlgflbcgemnaaGreatDoorWalE
import Derived.Test.YtpdlgflbcgemnaaGreatDoorGo
-- LogP
/- what a log of one segment keeps of its texts, and what is read of it: plain laws. -/
set_option linter.unusedSimpArgs false
set_option linter.unusedVariables false
set_option maxRecDepth 100000
namespace Go.Proofs.YtpdlgflbcgemnaaGreatDoor
open Go.RowKit Octs
def mT (m : MsgR) : ByteArray := Octs.txt (encM m)
def frT (s : ByteArray) : ByteArray := Frm.txt (Frm.framed (Frm.bytes s))
theorem frT_size (s : ByteArray) : (frT s).size = 7 + s.size := by unfold frT; rw [Frm.txt_size, Frm.framed_length, Frm.bytes_length]
theorem txt_extract (l : List UInt8) (n : Nat) : (Frm.txt l).extract 0 n = Frm.txt (l.take n) := by
  rw [Frm.extract_eq]
  unfold Frm.part
  rw [Frm.bytes_txt]
  simp
theorem frames_snoc (T : List ByteArray) (t : ByteArray) : Frm.frames (T ++ [t]) = Frm.frames T ++ Frm.framed (Frm.bytes t) := by
  rw [Frm.frames_append, Frm.frames_cons]
  simp [Frm.frames]
theorem fend_snoc (T : List ByteArray) (t : ByteArray) (j : Nat) (hj : j ≤ T.length) : Frm.fend (T ++ [t]) j = Frm.fend T j := by
  unfold Frm.fend
  rw [List.take_append_of_le_length hj]
/-- how a log's file stands: of T's frames lie cut bytes there; the first su texts are sure -/
structure Lg (T : List ByteArray) (su cut : Nat) (f : Fl) : Prop where
  s : f.s = Frm.txt ((Frm.frames T).take cut)
  le : cut ≤ (Frm.frames T).length
  sure : f.sure = Frm.fend T su
  sul : su ≤ T.length
  suc : Frm.fend T su ≤ cut
theorem Lg.size {T : List ByteArray} {su cut : Nat} {f : Fl} (h : Lg T su cut f) : f.s.size = cut := by
  rw [h.s, Frm.txt_size, List.length_take, Nat.min_eq_left h.le]
theorem Lg.none : Lg [] 0 0 fl0 := ⟨rfl, Nat.le_refl _, rfl, Nat.le_refl _, Nat.le_refl _⟩
theorem Lg.app {T : List ByteArray} {su : Nat} {f : Fl} (h : Lg T su (Frm.frames T).length f) (t : ByteArray) (k : Nat) (hk : k ≤ 7 + t.size) : Lg (T ++ [t]) su ((Frm.frames T).length + k) ⟨f.s ++ (frT t).extract 0 k, f.sure⟩ where
  s := by
    show f.s ++ (frT t).extract 0 k = _
    rw [h.s, List.take_length, frT, txt_extract, Frm.txt_append, frames_snoc, List.take_length_add_append]
  le := by rw [frames_snoc, List.length_append, Frm.framed_length, Frm.bytes_length]; omega
  sure := by
    show f.sure = _
    rw [h.sure, fend_snoc _ _ _ h.sul]
  sul := by rw [List.length_append]; have := h.sul; omega
  suc := by rw [fend_snoc _ _ _ h.sul]; have := h.suc; omega
theorem Lg.whole {T : List ByteArray} {su : Nat} {f : Fl} (h : Lg T su (Frm.frames T).length f) (t : ByteArray) : Lg (T ++ [t]) su (Frm.frames (T ++ [t])).length ⟨f.s ++ (frT t).extract 0 (frT t).size, f.sure⟩ := by
  have h1 := h.app t (7 + t.size) (Nat.le_refl _)
  rw [← frT_size] at h1
  have e : (Frm.frames (T ++ [t])).length = (Frm.frames T).length + (frT t).size := by rw [frames_snoc, List.length_append, Frm.framed_length, Frm.bytes_length, frT_size]
  rw [e]
  exact h1
theorem Lg.sync {T : List ByteArray} {su : Nat} {f : Fl} (h : Lg T su (Frm.frames T).length f) : Lg T T.length (Frm.frames T).length ⟨f.s, f.s.size⟩ :=
  ⟨h.s, Nat.le_refl _, by show f.s.size = _; rw [h.size, Frm.fend_all], Nat.le_refl _, by rw [Frm.fend_all]; exact Nat.le_refl _⟩
theorem fend_mono (T : List ByteArray) (i : Nat) : ∀ j, i ≤ j → j ≤ T.length → Frm.fend T i ≤ Frm.fend T j
  | j, hij, hj => by
    rcases Nat.eq_or_lt_of_le hij with rfl | hlt
    · exact Nat.le_refl _
    · obtain ⟨j, rfl⟩ : ∃ j', j = j' + 1 := ⟨j - 1, by omega⟩
      have := fend_mono T i j (by omega) (by omega)
      have h2 := Frm.fend_next T j (by omega)
      omega
theorem last_whole (T : List ByteArray) (cut : Nat) : ∀ (n j : Nat), n = T.length - j → j ≤ T.length → Frm.fend T j ≤ cut → ∃ i, j ≤ i ∧ i ≤ T.length ∧ Frm.fend T i ≤ cut ∧ (i = T.length ∨ cut < Frm.fend T (i + 1))
  | 0, j, hn, hj, hc => ⟨j, Nat.le_refl _, hj, hc, .inl (by omega)⟩
  | n + 1, j, hn, hj, hc => by
    by_cases h : cut < Frm.fend T (j + 1)
    · exact ⟨j, Nat.le_refl _, hj, hc, .inr h⟩
    · obtain ⟨i, h1, h2, h3, h4⟩ := last_whole T cut n (j + 1) (by omega) (by omega) (by omega)
      exact ⟨i, by omega, h2, h3, h4⟩
theorem small_getD {T : List ByteArray} (hT : ∀ t ∈ T, t.size ≤ 65536) (k : Nat) : (T.getD k ByteArray.empty).size ≤ 65536 := by
  rw [List.getD_eq_getElem?_getD]
  cases h : T[k]? with
  | none => simp
  | some t => exact hT t (List.mem_of_getElem? h)
/-- behind a crash: what is read, and where it ends -/
theorem Lg.crash {T : List ByteArray} {su cut : Nat} {f : Fl} (h : Lg T su cut f) (hT : ∀ t ∈ T, t.size ≤ 65536) (keep : Int) : ∃ j, su ≤ j ∧ j ≤ T.length ∧ Frm.allOf (f.s.extract 0 (f.sure + crK f keep)) 0 = (T.take j, Frm.fend T j) ∧
    Frm.fend T j ≤ (f.s.extract 0 (f.sure + crK f keep)).size ∧ (f.s.extract 0 (f.sure + crK f keep)).size ≤ cut ∧ (f.s.extract 0 (f.sure + crK f keep)).extract 0 (Frm.fend T j) = Frm.txt (Frm.frames (T.take j)) := by
  have hz := h.size
  have hs := h.sure
  have hc := h.suc
  have hl := h.le
  have hk : f.sure + crK f keep ≤ cut := by unfold crK; omega
  have hk2 : Frm.fend T su ≤ f.sure + crK f keep := by omega
  generalize f.sure + crK f keep = c at *
  have e : f.s.extract 0 c = Frm.txt ((Frm.frames T).take c) := by rw [h.s, txt_extract, List.take_take, Nat.min_eq_left hk]
  obtain ⟨j, h1, h2, h3, h4⟩ := last_whole T c _ su rfl h.sul hk2
  have hb := Frm.back_all (l := T) (cut := c) (small_getD hT) (by omega) h2 h3 h4
  have hsz : (f.s.extract 0 c).size = c := by rw [e, Frm.txt_size, List.length_take, Nat.min_eq_left (by omega)]
  refine ⟨j, h1, h2, by rw [e]; exact hb, by omega, by omega, ?_⟩
  rw [e, txt_extract, List.take_take, Nat.min_eq_left h3]
  congr 1
  conv => lhs; rw [Frm.frames_split T j]
  exact List.take_left' rfl
theorem Lg.again (T : List ByteArray) : Lg T T.length (Frm.frames T).length ⟨Frm.txt (Frm.frames T), (Frm.txt (Frm.frames T)).size⟩ :=
  ⟨by rw [List.take_length], Nat.le_refl _, by show (Frm.txt (Frm.frames T)).size = _; rw [Frm.txt_size, Frm.fend_all], Nat.le_refl _, by rw [Frm.fend_all]; exact Nat.le_refl _⟩
/-- behind a crash that comes behind a sync all is read -/
theorem Lg.all {T : List ByteArray} {f : Fl} (h : Lg T T.length (Frm.frames T).length f) (hT : ∀ t ∈ T, t.size ≤ 65536) : Frm.allOf (f.s.extract 0 (f.sure + crK f 0)) 0 = (T, (Frm.frames T).length) ∧ (f.s.extract 0 (f.sure + crK f 0)).size = (Frm.frames T).length := by
  have hz := h.size
  have hs := h.sure
  rw [Frm.fend_all] at hs
  have hk : f.sure + crK f 0 = (Frm.frames T).length := by unfold crK; omega
  have e : f.s.extract 0 (f.sure + crK f 0) = Frm.txt (Frm.frames T) := by rw [hk, h.s, txt_extract, List.take_take, Nat.min_self, List.take_length]
  rw [e]
  exact ⟨Frm.back_whole (small_getD hT), by rw [Frm.txt_size]⟩
end Go.Proofs.YtpdlgflbcgemnaaGreatDoor
-- LogQ
/- the law's disk: contracts of the log on it. -/
set_option linter.unusedSimpArgs false
set_option linter.unusedVariables false
set_option maxRecDepth 100000
namespace Go.Proofs.YtpdlgflbcgemnaaGreatDoor
open Go.RowKit Octs
theorem putF_at (F : ByteArray → Option Fl) (a : ByteArray) (f : Fl) : putF F a f a = some f := if_pos rfl
structure Dg (T : List ByteArray) (su cut : Nat) (d : Dk) : Prop where
  n : d.n = 1
  f : ∃ f, d.F nm = some f ∧ Lg T su cut f
  live : d.dead = false → cut = (Frm.frames T).length
  room : cut + d.room ≤ 3000
section
variable {W wx : World} {l : List Asn} {G D : Nat} {d : Dk}
theorem logDies_O {n : Nat} {T : List ByteArray} {su cut : Nat} (h : Own W wx (logA G D n :: diskA D d :: l)) (hT : Frm.Nib W) (hd : d.dead = false) (g : Dg T su cut d) (s : ByteArray) (hs : s.size ≤ 2000) (hn : n ≤ 1000) (hlt : d.room < (frT s).size)
    (B : Nat) (hB : B < wx.heap.size) (h0 : wx.cell? ⟨B, 0, none⟩ = some (.string s)) :
    Calls Tryz.prog 10 #[ptV G, .slice (some ⟨B, 0, none⟩) 1 1] wx (fun e w' => ∃ (d' : Dk) (cut' : Nat), e = .returned (.int .i64 12) ∧ Dg (T ++ [s]) su cut' d' ∧ Own W w' (logA G D n :: diskA D d' :: l)) := by
  obtain ⟨f, hf, hg⟩ := g.f
  have hc := g.live hd
  subst hc
  have hz := hg.size
  have hroom := g.room
  have hsz := frT_size s
  refine (walAppend_O h hT hd f hf (by omega) (by omega) s (frT s) (by omega) rfl (by omega) (by omega) B hB h0).mono ?_
  rintro e w' ⟨rfl, O⟩
  have hap : apF d nm (frT s) = ⟨f.s ++ (frT s).extract 0 (min (frT s).size d.room), f.sure⟩ := by
    unfold apF
    rw [hf]
    rfl
  rw [if_pos hlt] at O ⊢
  refine ⟨apD d nm (frT s), (Frm.frames T).length + min (frT s).size d.room, rfl, ⟨by simp [apD, hf, g.n], ⟨_, (putF_at d.F nm (apF d nm (frT s))), ?_⟩, ?_, ?_⟩, O⟩
  · rw [hap]
    exact hg.app s _ (by omega)
  · simp only [apD]
    intro h
    simp at h
    omega
  · simp only [apD]
    omega
theorem logLives_O {n : Nat} {T : List ByteArray} {su cut : Nat} (h : Own W wx (logA G D n :: diskA D d :: l)) (hT : Frm.Nib W) (hd : d.dead = false) (g : Dg T su cut d) (s : ByteArray) (hs : s.size ≤ 2000) (hn : n ≤ 1000) (hlt : ¬ d.room < (frT s).size)
    (B : Nat) (hB : B < wx.heap.size) (h0 : wx.cell? ⟨B, 0, none⟩ = some (.string s)) :
    Calls Tryz.prog 10 #[ptV G, .slice (some ⟨B, 0, none⟩) 1 1] wx (fun e w' => ∃ (d' : Dk) (cut' : Nat), e = .returned (.int .i64 0) ∧ d'.dead = false ∧ Dg (T ++ [s]) su cut' d' ∧ Own W w' (logA G D (n + 1) :: diskA D d' :: l)) := by
  obtain ⟨f, hf, hg⟩ := g.f
  have hc := g.live hd
  subst hc
  have hz := hg.size
  have hroom := g.room
  have hsz := frT_size s
  refine (walAppend_O h hT hd f hf (by omega) (by omega) s (frT s) (by omega) rfl (by omega) (by omega) B hB h0).mono ?_
  rintro e w' ⟨rfl, O⟩
  have hap : apF d nm (frT s) = ⟨f.s ++ (frT s).extract 0 (min (frT s).size d.room), f.sure⟩ := by
    unfold apF
    rw [hf]
    rfl
  rw [if_neg hlt] at O ⊢
  refine ⟨apD d nm (frT s), (Frm.frames (T ++ [s])).length, rfl, by simp only [apD]; simpa using hlt, ⟨by simp [apD, hf, g.n], ⟨_, (putF_at d.F nm (apF d nm (frT s))), ?_⟩, fun _ => rfl, ?_⟩, O⟩
  · rw [hap, Nat.min_eq_left (by omega)]
    exact hg.whole s
  · simp only [apD]
    have e : (Frm.frames (T ++ [s])).length = (Frm.frames T).length + (frT s).size := by rw [frames_snoc, List.length_append, Frm.framed_length, Frm.bytes_length, frT_size]
    omega
theorem logSync_O {n : Nat} {T : List ByteArray} {su cut : Nat} (h : Own W wx (logA G D n :: diskA D d :: l)) (hd : d.dead = false) (g : Dg T su cut d) :
    Calls Tryz.prog 11 #[ptV G] wx (fun e w' => ∃ (d' : Dk) (cut' : Nat), e = .returned (.int .i64 0) ∧ d'.dead = false ∧ Dg T T.length cut' d' ∧ Own W w' (logA G D n :: diskA D d' :: l)) := by
  obtain ⟨f, hf, hg⟩ := g.f
  have hc := g.live hd
  subst hc
  refine (walSync_O h hd f hf).mono ?_
  rintro e w' ⟨rfl, O⟩
  exact ⟨{ d with F := putF d.F nm ⟨f.s, f.s.size⟩ }, (Frm.frames T).length, rfl, hd, ⟨g.n, ⟨⟨f.s, f.s.size⟩, (putF_at d.F nm ⟨f.s, f.s.size⟩), hg.sync⟩, fun _ => rfl, g.room⟩, O⟩
/-- the disk behind a crash: texts that are read of it -/
structure Cr (T : List ByteArray) (su j : Nat) (d : Dk) (f : Fl) : Prop where
  n : d.n = 1
  hF : d.F nm = some f
  dead : d.dead = false
  room : d.room = 4611686018427387904
  lo : su ≤ j
  hi : j ≤ T.length
  all : Frm.allOf f.s 0 = (T.take j, Frm.fend T j)
  at' : Frm.fend T j ≤ f.s.size
  size : f.s.size ≤ 3000
  cut : f.s.extract 0 (Frm.fend T j) = Frm.txt (Frm.frames (T.take j))
theorem logCrash_O {T : List ByteArray} {su cut : Nat} (h : Own W wx (diskA D d :: l)) (g : Dg T su cut d) (hT : ∀ t ∈ T, t.size ≤ 65536) (keep : Int) :
    Calls Tryz.prog 12 #[ptV D, .int .i64 keep] wx (fun e w' => ∃ j d' f', e = .returned (.tuple #[]) ∧ Cr T su j d' f' ∧ Own W w' (diskA D d' :: l)) := by
  obtain ⟨f, hf, hg⟩ := g.f
  have hz := hg.size
  have hs := hg.sure
  have hc := hg.suc
  have hr := g.room
  refine (diskCrash_O h g.n f hf (by omega) (by omega) keep).mono ?_
  rintro e w' ⟨rfl, O⟩
  obtain ⟨j, h1, h2, h3, h4, h5, h6⟩ := hg.crash hT keep
  exact ⟨j, ⟨1, putF d.F nm ⟨f.s.extract 0 (f.sure + crK f keep), f.sure + crK f keep⟩, 4611686018427387904, false⟩, ⟨f.s.extract 0 (f.sure + crK f keep), f.sure + crK f keep⟩, rfl, ⟨rfl, (putF_at d.F nm ⟨f.s.extract 0 (f.sure + crK f keep), f.sure + crK f keep⟩), rfl, rfl, h1, h2, h3, h4, Nat.le_trans h5 (by omega), h6⟩, O⟩
/-- Open behind a crash -/
theorem logOpen_O {T : List ByteArray} {su j : Nat} {f : Fl} (h : Own W wx (diskA D d :: l)) (hN : Frm.Nib W) (g : Cr T su j d f) (hl : T.length ≤ 1000) :
    Calls Tryz.prog 5 #[ptV D, .string tLog] wx (fun e w' => ∃ G A c d', e = .returned (.tuple #[ptV G, .slice A j c, .int .i64 0]) ∧ d'.n = 1 ∧ d'.F nm = some ⟨Frm.txt (Frm.frames (T.take j)), (Frm.txt (Frm.frames (T.take j))).size⟩ ∧ d'.room = 4611686018427387904 ∧ d'.dead = false ∧
      Own W w' (logA G D j :: slA 1 (.slice A j c) j ((T.take j).map Value.string) :: diskA D d' :: l)) := by
  have hr := g.room
  have hz := g.size
  have hj : (T.take j).length = j := by rw [List.length_take, Nat.min_eq_left g.hi]
  refine (walOpen_O h hN g.dead (by omega) f (.inr ⟨g.n, g.hF⟩) (by omega) (T.take j) (Frm.fend T j) g.all g.at' (by have := g.hi; omega)).mono ?_
  rintro e w' ⟨G, A, c, d', rfl, ho, O⟩
  rw [hj] at O ⊢
  exact ⟨G, A, c, d', rfl, ho.n, by rw [ho.f, g.cut], ho.room.trans g.room, ho.dead, O⟩
/-- what is logged behind that -/
theorem lastAppend_O {n : Nat} {T : List ByteArray} (h : Own W wx (logA G D n :: diskA D d :: l)) (hT : Frm.Nib W) (hn : d.n = 1) (hf : d.F nm = some ⟨Frm.txt (Frm.frames T), (Frm.txt (Frm.frames T)).size⟩) (hr : d.room = 4611686018427387904) (hd : d.dead = false) (hz : (Frm.frames T).length ≤ 3000) (s : ByteArray) (hs : s.size ≤ 2000) (hn1 : n ≤ 1000)
    (B : Nat) (hB : B < wx.heap.size) (h0 : wx.cell? ⟨B, 0, none⟩ = some (.string s)) :
    Calls Tryz.prog 10 #[ptV G, .slice (some ⟨B, 0, none⟩) 1 1] wx (fun e w' => ∃ (n' : Nat) (d' : Dk) (f' : Fl), e = .returned (.int .i64 0) ∧ d'.dead = false ∧ d'.n = 1 ∧ d'.F nm = some f' ∧ Lg (T ++ [s]) T.length (Frm.frames (T ++ [s])).length f' ∧ Own W w' (logA G D n' :: diskA D d' :: l)) := by
  have hsz := frT_size s
  have hlt : ¬ d.room < (frT s).size := by omega
  have hap : apF d nm (frT s) = ⟨Frm.txt (Frm.frames T) ++ (frT s).extract 0 (min (frT s).size d.room), (Frm.txt (Frm.frames T)).size⟩ := by
    unfold apF
    rw [hf]
    rfl
  refine (walAppend_O h hT hd _ hf (by omega) (by show (Frm.txt (Frm.frames T)).size < 4096; rw [Frm.txt_size]; omega) s (frT s) (by omega) rfl (by omega) (by omega) B hB h0).mono ?_
  rintro e w' ⟨rfl, O⟩
  rw [if_neg hlt] at O ⊢
  refine ⟨_, apD d nm (frT s), _, rfl, by simp only [apD]; simpa using hlt, by simp [apD, hf, hn], (putF_at d.F nm (apF d nm (frT s))), ?_, O⟩
  rw [hap, Nat.min_eq_left (by omega)]
  exact (Lg.again T).whole s
theorem lastSync_O {n : Nat} {T : List ByteArray} {su : Nat} {f : Fl} (h : Own W wx (logA G D n :: diskA D d :: l)) (hd : d.dead = false) (hn : d.n = 1) (hf : d.F nm = some f) (hg : Lg T su (Frm.frames T).length f) :
    Calls Tryz.prog 11 #[ptV G] wx (fun e w' => ∃ (d' : Dk) (f' : Fl), e = .returned (.int .i64 0) ∧ d'.n = 1 ∧ d'.F nm = some f' ∧ Lg T T.length (Frm.frames T).length f' ∧ Own W w' (logA G D n :: diskA D d' :: l)) := by
  refine (walSync_O h hd f hf).mono ?_
  rintro e w' ⟨rfl, O⟩
  exact ⟨{ d with F := putF d.F nm ⟨f.s, f.s.size⟩ }, ⟨f.s, f.s.size⟩, rfl, hn, (putF_at d.F nm ⟨f.s, f.s.size⟩), hg.sync, O⟩
theorem lastCrash_O {T : List ByteArray} {f : Fl} (h : Own W wx (diskA D d :: l)) (hn : d.n = 1) (hf : d.F nm = some f) (hg : Lg T T.length (Frm.frames T).length f) (hz : (Frm.frames T).length ≤ 6000) (hT : ∀ t ∈ T, t.size ≤ 65536) :
    Calls Tryz.prog 12 #[ptV D, .int .i64 0] wx (fun e w' => ∃ d' f', e = .returned (.tuple #[]) ∧ d'.n = 1 ∧ d'.F nm = some f' ∧ d'.dead = false ∧ d'.room = 4611686018427387904 ∧ Frm.allOf f'.s 0 = (T, (Frm.frames T).length) ∧ f'.s.size = (Frm.frames T).length ∧ Own W w' (diskA D d' :: l)) := by
  have hz2 := hg.size
  have hs := hg.sure
  have hc := hg.suc
  refine (diskCrash_O h hn f hf (by omega) (by omega) 0).mono ?_
  rintro e w' ⟨rfl, O⟩
  obtain ⟨h1, h2⟩ := hg.all hT
  exact ⟨⟨1, putF d.F nm ⟨f.s.extract 0 (f.sure + crK f 0), f.sure + crK f 0⟩, 4611686018427387904, false⟩, ⟨f.s.extract 0 (f.sure + crK f 0), f.sure + crK f 0⟩, rfl, rfl, (putF_at d.F nm ⟨f.s.extract 0 (f.sure + crK f 0), f.sure + crK f 0⟩), rfl, rfl, h1, h2, O⟩
theorem lastOpen_O {T : List ByteArray} {f : Fl} (h : Own W wx (diskA D d :: l)) (hN : Frm.Nib W) (hn : d.n = 1) (hf : d.F nm = some f) (hd : d.dead = false) (hr : d.room = 4611686018427387904) (ha : Frm.allOf f.s 0 = (T, (Frm.frames T).length)) (hs : f.s.size = (Frm.frames T).length) (hz : (Frm.frames T).length ≤ 6000) (hl : T.length ≤ 1000) :
    Calls Tryz.prog 5 #[ptV D, .string tLog] wx (fun e w' => ∃ G A c, e = .returned (.tuple #[ptV G, .slice A T.length c, .int .i64 0]) ∧ Own W w' (slA 1 (.slice A T.length c) T.length (T.map Value.string) :: l)) := by
  refine (walOpen_O h hN hd (by omega) f (.inr ⟨hn, hf⟩) (by omega) T _ ha (by omega) hl).mono ?_
  rintro e w' ⟨G, A, c, d', rfl, ho, O⟩
  exact ⟨G, A, c, rfl, (O.pull 1 rfl |>.rot1.drop |>.rot1.drop)⟩
end
end Go.Proofs.YtpdlgflbcgemnaaGreatDoor
-- LogR
/- rows of messages; mod: walks (as in TopMail's texts). -/
set_option linter.unusedSimpArgs false
set_option linter.unusedVariables false
set_option maxRecDepth 100000
namespace Go.Proofs.YtpdlgflbcgemnaaGreatDoor
open Go.RowKit Octs
def msC (m : MsgR) (a : MAt) : List Value := [.int .i64 m.kind, .int .i64 m.t, .int .i64 m.n, .slice a.Ac m.cs.length a.cc, .slice a.Ab m.bs.length a.cb, .slice a.Ai m.is.length a.ci]
def hrC (xs : List (MsgR × MAt)) : List Value := xs.flatMap fun x => msC x.1 x.2
theorem src_ms (w : World) (B : Nat) (m : MsgR) (a : MAt) (h0 : w.cell? ⟨B, 0, none⟩ = some (.int .i64 m.kind)) (h1 : w.cell? ⟨B, 1, none⟩ = some (.int .i64 m.t)) (h2 : w.cell? ⟨B, 2, none⟩ = some (.int .i64 m.n))
    (h3 : w.cell? ⟨B, 3, none⟩ = some (.slice a.Ac m.cs.length a.cc)) (h4 : w.cell? ⟨B, 4, none⟩ = some (.slice a.Ab m.bs.length a.cb)) (h5 : w.cell? ⟨B, 5, none⟩ = some (.slice a.Ai m.is.length a.ci)) : Src Tryz.prog 6 22 (.slice (some ⟨B, 0, none⟩) 1 1) 1 (msC m a) w :=
  Src.ofCells (e := 39) (by kernel_rfl) w (msC m a) rfl (fun j hj => by
    match j, hj with
    | 0, _ => exact h0
    | 1, _ => exact h1
    | 2, _ => exact h2
    | 3, _ => exact h3
    | 4, _ => exact h4
    | 5, _ => exact h5) (fun u hu => by simp [msC] at hu; rcases hu with rfl | rfl | rfl | rfl | rfl | rfl <;> rfl) 1
abbrev ms0 : MsgR × MAt := (msZ, a0)
def msRow (xs : List (MsgR × MAt)) (i j : Nat) : Value := (msC (xs.getD i ms0).1 (xs.getD i ms0).2).getD j (.bool false)
theorem ms_row {w : World} {A : Option Addr} {n : Nat} {xs : List (MsgR × MAt)} (h : RowsAt w A 6 n (msRow xs)) (k : Nat) (hk : k < n) (x : MsgR × MAt) (hx : xs[k]? = some x) : ∃ g o, A = some ⟨g, o, none⟩ ∧ g < w.heap.size ∧
    w.cell? ⟨g, o + k * 6, none⟩ = some (.int .i64 x.1.kind) ∧ w.cell? ⟨g, o + k * 6 + 1, none⟩ = some (.int .i64 x.1.t) ∧ w.cell? ⟨g, o + k * 6 + 2, none⟩ = some (.int .i64 x.1.n) ∧
    w.cell? ⟨g, o + k * 6 + 3, none⟩ = some (.slice x.2.Ac x.1.cs.length x.2.cc) ∧ w.cell? ⟨g, o + k * 6 + 4, none⟩ = some (.slice x.2.Ab x.1.bs.length x.2.cb) ∧ w.cell? ⟨g, o + k * 6 + 5, none⟩ = some (.slice x.2.Ai x.1.is.length x.2.ci) := by
  obtain ⟨g, o, rfl, hl, hc⟩ := h (by omega)
  have e : xs.getD k ms0 = x := by rw [List.getD_eq_getElem?_getD, hx]; rfl
  have c0 := hc k 0 hk (by omega)
  have c1 := hc k 1 hk (by omega)
  have c2 := hc k 2 hk (by omega)
  have c3 := hc k 3 hk (by omega)
  have c4 := hc k 4 hk (by omega)
  have c5 := hc k 5 hk (by omega)
  unfold msRow at c0 c1 c2 c3 c4 c5
  rw [e] at c0 c1 c2 c3 c4 c5
  exact ⟨g, o, rfl, hl, c0, c1, c2, c3, c4, c5⟩
theorem hrC_len (T : List (MsgR × MAt)) : (hrC T).length = T.length * 6 := by
  induction T with
  | nil => rfl
  | cons x r ih =>
    show (msC x.1 x.2 ++ hrC r).length = _
    rw [List.length_append, ih, List.length_cons, Nat.add_mul]
    simp [msC]
    omega
theorem hrC_get (T : List (MsgR × MAt)) (i j : Nat) (hi : i < T.length) (hj : j < 6) : (hrC T)[i * 6 + j]? = some (msRow T i j) := by
  induction T generalizing i with
  | nil => simp at hi
  | cons x r ih =>
    show (msC x.1 x.2 ++ hrC r)[i * 6 + j]? = _
    have hx : (msC x.1 x.2).length = 6 := rfl
    cases i with
    | zero =>
      rw [List.getElem?_append_left (by omega)]
      unfold msRow
      simp only [List.getD_cons_zero, Nat.zero_mul, Nat.zero_add]
      rw [List.getD_eq_getElem?_getD, List.getElem?_eq_getElem (by omega)]
      rfl
    | succ i =>
      rw [List.getElem?_append_right (by omega), hx, show (i + 1) * 6 + j - 6 = i * 6 + j by omega, ih i (by simpa using hi)]
      unfold msRow
      simp only [List.getD_cons_succ]
theorem sl_msRows {w : World} {v : Value} {T : List (MsgR × MAt)} (h : Sl w 6 v T.length (hrC T)) : ∃ A c, v = .slice A T.length c ∧ RowsAt w A 6 T.length (msRow T) := by
  obtain ⟨A, c, hv⟩ := h.shape
  exact ⟨A, c, hv, h.rows hv _ fun i j hi hj => hrC_get T i j hi hj⟩
theorem hrC_snoc (T : List (MsgR × MAt)) (m : MsgR) (a : MAt) : hrC T ++ msC m a = hrC (T ++ [(m, a)]) := by rw [hrC, hrC, List.flatMap_append]; simp
theorem remM (n : Int) (m : Nat) (hm : 0 < m) (hm2 : m ≤ 1000000) : ∃ (t : Int) (k : Nat), n.tmod m = t ∧ wrap64 (t + m) = t + m ∧ (t + m).tmod m = (k : Int) ∧ k < m := by
  have h1 := Int.emod_nonneg n (show (m : Int) ≠ 0 by omega)
  have h2 := Int.tmod_lt_of_pos n (show (0 : Int) < m by omega)
  have h3 := Int.lt_tmod_of_pos n (show (0 : Int) < m by omega)
  have h4 : 0 ≤ (n.tmod m + m) % m := Int.emod_nonneg _ (by omega)
  have h5 : (n.tmod m + m) % m < m := Int.emod_lt_of_pos _ (by omega)
  refine ⟨n.tmod m, ((n.tmod m + m) % m).toNat, rfl, by unfold wrap64; omega, ?_, by omega⟩
  rw [Int.tmod_eq_emod_of_nonneg (by omega)]
  omega
def modV (k : Int) (n : Nat) : Nat := ((k.tmod n + n).tmod n).toNat
theorem modV_lt (k : Int) (n : Nat) (hn : 0 < n ∧ n ≤ 100000) : modV k n < n := by
  obtain ⟨t, m, h1, h2, h3, h4⟩ := remM k n hn.1 (by omega)
  unfold modV
  rw [h1, h3]
  exact h4
theorem mod_any (w : World) (k : Int) (n : Nat) (hn : 0 < n ∧ n ≤ 100000) : Calls Tryz.prog 7 #[.int .i64 k, .int .i64 (n : Int)] w fun e w' => e = .returned (.int .i64 (modV k n : Int)) ∧ w.Plus w' := by
  obtain ⟨t, m, h1, h2, h3, h4⟩ := remM k n hn.1 (by omega)
  have hm : modV k n = m := by unfold modV; rw [h1, h3]; rfl
  rw [hm]
  have hz : ¬ (n : Int) = 0 := by omega
  have hz2 : ((n : Int) == 0) = false := by simpa using hz
  clear hm
  obtain ⟨N, hN⟩ : ∃ N : Int, N = (n : Int) := ⟨_, rfl⟩
  rw [← hN] at h1 h2 h3 hz hz2 ⊢
  replace hN := Lib.hid hN
  replace hn := Lib.hid hn
  go_enter Tryz.func7, Tryz.ntmps7
  go_wp2_with fail
  go_ret
  exact ⟨rfl, by (repeat (first | exact Plus.refl _ | apply Plus.plus | apply Plus.alloc | apply Plus.drew))⟩
end Go.Proofs.YtpdlgflbcgemnaaGreatDoor
