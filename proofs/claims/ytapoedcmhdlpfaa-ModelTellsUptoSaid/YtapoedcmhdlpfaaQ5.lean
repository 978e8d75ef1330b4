/- What term.Small returns, for every term that lies in memory (the walk). -/
import Derived.Test.YtapoedcmhdlpfaaQ2
import Derived.Laws.EntriesVeiled
namespace Go.Proofs.Ytapoedcmhdlpfaa
open Go.ChangeShapes Go.WideShapes Go.ChangeAt Go.RowKit
theorem Chg.drewN {S : List Nat} {a b : World} (h : Chg S a b) (n : Nat) : Chg S a (b.drewN n) := ⟨h.os, h.tape, h.output, h.size, h.block⟩

theorem smallRuns_step {m : Int} {ks : List Tm} {k d n : Nat} (h : k < ks.length) : Tm.smallRuns m (ks.drop k) d n = if (Tm.smallRun m ks[k] d n).1 then Tm.smallRuns m (ks.drop (k + 1)) d (Tm.smallRun m ks[k] d n).2 else (false, (Tm.smallRun m ks[k] d n).2) := by
  rw [List.drop_eq_getElem_cons h]; rfl

/-- the closure that goes down -/
def downV (bn bm bd : Nat) : Value := .func (.func 70) #[] #[.pointer (some ⟨bn, 0, none⟩), .pointer (some ⟨bm, 0, none⟩), .pointer (some ⟨bd, 0, none⟩)]

set_option maxHeartbeats 400000 in
set_option maxRecDepth 100000 in
theorem down_A (m f : Int) (_hm1 : -1048576 ≤ m) (_hm2 : m ≤ 1048576) (_hf1 : -9223372036854775808 ≤ f) (_hf2 : f ≤ 9223372036854775807) (w : World) (bn bm bd b o d n l c : Nat) (a : Option Addr) (_hbn : b ≠ bn) (_hbm : bm ≠ bn) (_hbd : bd ≠ bn) (_hd2 : (d : Int) ≤ 31) (hn : (n : Int) ≤ 300) (_gx : w.cell? ⟨b, o, none⟩ = some (.int .i64 f)) (_gs : w.cell? ⟨b, o + 1, none⟩ = some (.slice a l c))
    (hcn : w.cell? ⟨bn, 0, none⟩ = some (.int .i64 n)) (hfn : w.frozen? ⟨bn, 0, none⟩ = false) (_hcm : w.cell? ⟨bm, 0, none⟩ = some (.int .i64 m))
    (h1 : decide ((300 : Int) < (n : Int) + 1) = true) :
    Calls Try.prog 70 #[.pointer (some ⟨b, o, none⟩), .int .i64 d, .pointer (some ⟨bn, 0, none⟩), .pointer (some ⟨bm, 0, none⟩), .pointer (some ⟨bd, 0, none⟩)] w
      fun e w' => e = .returned (.bool false) ∧ Chg [bn] w w' ∧ w'.cell? ⟨bn, 0, none⟩ = some (.int .i64 (n + 1)) ∧ w'.frozen? ⟨bn, 0, none⟩ = false := by
  go_enter Try.func70, Try.ntmps70
  go_wp2_with fail
  go_quiet (fail)
  go_wp2_with fail
  go_ret
  exact ⟨rfl, ((Chg.refl _ _).setCell _ (.inl (by simp))).drewN _, World.cell?_setCell_same _ _ _ hcn, (World.frozen?_setCell _ _ _ _).trans hfn⟩

set_option maxHeartbeats 400000 in
set_option maxRecDepth 100000 in
theorem down_B (m f : Int) (_hm1 : -1048576 ≤ m) (_hm2 : m ≤ 1048576) (_hf1 : -9223372036854775808 ≤ f) (_hf2 : f ≤ 9223372036854775807) (w : World) (bn bm bd b o d n l c : Nat) (a : Option Addr) (_hbn : b ≠ bn) (_hbm : bm ≠ bn) (_hbd : bd ≠ bn) (_hd2 : (d : Int) ≤ 31) (hn : (n : Int) ≤ 300) (_gx : w.cell? ⟨b, o, none⟩ = some (.int .i64 f)) (_gs : w.cell? ⟨b, o + 1, none⟩ = some (.slice a l c))
    (hcn : w.cell? ⟨bn, 0, none⟩ = some (.int .i64 n)) (hfn : w.frozen? ⟨bn, 0, none⟩ = false) (_hcm : w.cell? ⟨bm, 0, none⟩ = some (.int .i64 m))
    (h1 : decide ((300 : Int) < (n : Int) + 1) = false) (h2 : decide ((30 : Int) < (d : Int)) = true) :
    Calls Try.prog 70 #[.pointer (some ⟨b, o, none⟩), .int .i64 d, .pointer (some ⟨bn, 0, none⟩), .pointer (some ⟨bm, 0, none⟩), .pointer (some ⟨bd, 0, none⟩)] w
      fun e w' => e = .returned (.bool false) ∧ Chg [bn] w w' ∧ w'.cell? ⟨bn, 0, none⟩ = some (.int .i64 (n + 1)) ∧ w'.frozen? ⟨bn, 0, none⟩ = false := by
  go_enter Try.func70, Try.ntmps70
  go_wp2_with fail
  go_quiet (fail)
  go_wp2_with fail
  go_ret
  exact ⟨rfl, ((Chg.refl _ _).setCell _ (.inl (by simp))).drewN _, World.cell?_setCell_same _ _ _ hcn, (World.frozen?_setCell _ _ _ _).trans hfn⟩

set_option maxHeartbeats 400000 in
set_option maxRecDepth 100000 in
theorem down_C (m f : Int) (hm1 : -1048576 ≤ m) (hm2 : m ≤ 1048576) (_hf1 : -9223372036854775808 ≤ f) (_hf2 : f ≤ 9223372036854775807) (w : World) (bn bm bd b o d n l c : Nat) (a : Option Addr) (hbn : b ≠ bn) (hbm : bm ≠ bn) (hbd : bd ≠ bn) (_hd2 : (d : Int) ≤ 31) (hn : (n : Int) ≤ 300) (gx : w.cell? ⟨b, o, none⟩ = some (.int .i64 f)) (_gs : w.cell? ⟨b, o + 1, none⟩ = some (.slice a l c))
    (hcn : w.cell? ⟨bn, 0, none⟩ = some (.int .i64 n)) (hfn : w.frozen? ⟨bn, 0, none⟩ = false) (hcm : w.cell? ⟨bm, 0, none⟩ = some (.int .i64 m))
    (h1 : decide ((300 : Int) < (n : Int) + 1) = false) (h2 : decide ((30 : Int) < (d : Int)) = false) (h3 : decide (f < 0) = true) (h4 : decide (f < -m) = true) :
    Calls Try.prog 70 #[.pointer (some ⟨b, o, none⟩), .int .i64 d, .pointer (some ⟨bn, 0, none⟩), .pointer (some ⟨bm, 0, none⟩), .pointer (some ⟨bd, 0, none⟩)] w
      fun e w' => e = .returned (.bool false) ∧ Chg [bn] w w' ∧ w'.cell? ⟨bn, 0, none⟩ = some (.int .i64 (n + 1)) ∧ w'.frozen? ⟨bn, 0, none⟩ = false := by
  go_enter Try.func70, Try.ntmps70
  go_wp2_with fail
  go_quiet (fail)
  go_wp2_with fail
  go_ret
  exact ⟨rfl, ((Chg.refl _ _).setCell _ (.inl (by simp))).drewN _, World.cell?_setCell_same _ _ _ hcn, (World.frozen?_setCell _ _ _ _).trans hfn⟩

set_option maxHeartbeats 400000 in
set_option maxRecDepth 100000 in
theorem down_D (m f : Int) (hm1 : -1048576 ≤ m) (hm2 : m ≤ 1048576) (_hf1 : -9223372036854775808 ≤ f) (_hf2 : f ≤ 9223372036854775807) (w : World) (bn bm bd b o d n l c : Nat) (a : Option Addr) (hbn : b ≠ bn) (hbm : bm ≠ bn) (hbd : bd ≠ bn) (_hd2 : (d : Int) ≤ 31) (hn : (n : Int) ≤ 300) (gx : w.cell? ⟨b, o, none⟩ = some (.int .i64 f)) (gs : w.cell? ⟨b, o + 1, none⟩ = some (.slice a l c))
    (hcn : w.cell? ⟨bn, 0, none⟩ = some (.int .i64 n)) (hfn : w.frozen? ⟨bn, 0, none⟩ = false) (hcm : w.cell? ⟨bm, 0, none⟩ = some (.int .i64 m))
    (h1 : decide ((300 : Int) < (n : Int) + 1) = false) (h2 : decide ((30 : Int) < (d : Int)) = false) (h3 : decide (f < 0) = true) (h4 : decide (f < -m) = false) (h5 : 0 < l) :
    Calls Try.prog 70 #[.pointer (some ⟨b, o, none⟩), .int .i64 d, .pointer (some ⟨bn, 0, none⟩), .pointer (some ⟨bm, 0, none⟩), .pointer (some ⟨bd, 0, none⟩)] w
      fun e w' => e = .returned (.bool false) ∧ Chg [bn] w w' ∧ w'.cell? ⟨bn, 0, none⟩ = some (.int .i64 (n + 1)) ∧ w'.frozen? ⟨bn, 0, none⟩ = false := by
  go_enter Try.func70, Try.ntmps70
  go_wp2_with fail
  go_quiet (fail)
  go_wp2_with fail
  go_ret
  exact ⟨rfl, ((Chg.refl _ _).setCell _ (.inl (by simp))).drewN _, World.cell?_setCell_same _ _ _ hcn, (World.frozen?_setCell _ _ _ _).trans hfn⟩

set_option maxHeartbeats 2000000 in
set_option maxRecDepth 100000 in
theorem down_any (m : Int) (hm1 : -1048576 ≤ m) (hm2 : m ≤ 1048576) (w0 : World) (bn bm bd : Nat) (hb0 : w0.heap.size ≤ bn) (hbm : bm ≠ bn) (hbd : bd ≠ bn) (t : Tm) :
    ∀ (w : World) (b o : Nat) (x s : Value) (d n : Nat), t.size ≤ 2097152 → w0.cell? ⟨b, o, none⟩ = some x → w0.cell? ⟨b, o + 1, none⟩ = some s → IsTm w0 x s t → Ext w0 w → 1 ≤ d → d ≤ 31 → n ≤ 300 →
      w.cell? ⟨bn, 0, none⟩ = some (.int .i64 n) → w.frozen? ⟨bn, 0, none⟩ = false → w.cell? ⟨bm, 0, none⟩ = some (.int .i64 m) → w.cell? ⟨bd, 0, none⟩ = some (downV bn bm bd) →
      Calls Try.prog 70 #[.pointer (some ⟨b, o, none⟩), .int .i64 d, .pointer (some ⟨bn, 0, none⟩), .pointer (some ⟨bm, 0, none⟩), .pointer (some ⟨bd, 0, none⟩)] w
        fun e w' => e = .returned (.bool (Tm.smallRun m t d n).1) ∧ Chg [bn] w w' ∧ w'.cell? ⟨bn, 0, none⟩ = some (.int .i64 (Tm.smallRun m t d n).2) ∧ w'.frozen? ⟨bn, 0, none⟩ = false := by
  induction t using Tm.ind with
  | h f ks ih =>
    intro w b o x s d n hsz hx hs ht hext hd1 hd2 hn hcn hfn hcm hcd
    simp only [IsTm] at ht
    obtain ⟨rfl, hf1, hf2, a, c, rfl, hc, hk⟩ := ht
    have gx := hext.cell hx
    have gs := hext.cell hs
    have hbn : b ≠ bn := by have := cell_lt hx; simp at this; omega
    have hn' : (n : Int) ≤ 300 := by omega
    have hd' : (d : Int) ≤ 31 := by omega
    have hmono : ∀ {v : Value} {n' : Int}, v = .bool false → n' = (n : Int) + 1 → Tm.smallRun m (.mk f ks) d n = (false, n + 1) → Calls Try.prog 70 #[.pointer (some ⟨b, o, none⟩), .int .i64 d, .pointer (some ⟨bn, 0, none⟩), .pointer (some ⟨bm, 0, none⟩), .pointer (some ⟨bd, 0, none⟩)] w
        (fun e w' => e = .returned v ∧ Chg [bn] w w' ∧ w'.cell? ⟨bn, 0, none⟩ = some (.int .i64 n') ∧ w'.frozen? ⟨bn, 0, none⟩ = false) → Calls Try.prog 70 #[.pointer (some ⟨b, o, none⟩), .int .i64 d, .pointer (some ⟨bn, 0, none⟩), .pointer (some ⟨bm, 0, none⟩), .pointer (some ⟨bd, 0, none⟩)] w
        (fun e w' => e = .returned (.bool (Tm.smallRun m (.mk f ks) d n).1) ∧ Chg [bn] w w' ∧ w'.cell? ⟨bn, 0, none⟩ = some (.int .i64 (Tm.smallRun m (.mk f ks) d n).2) ∧ w'.frozen? ⟨bn, 0, none⟩ = false) := by
      intro v n' hv hn' hs h
      rw [hs]
      subst hv; subst hn'
      exact h
    by_cases hbad : 300 < n + 1
    · exact hmono rfl rfl (by simp only [Tm.smallRun]; rw [if_pos (by omega)]) (down_A m f hm1 hm2 hf1 hf2 w bn bm bd b o d n _ c a hbn hbm hbd hd' hn' gx gs hcn hfn hcm (decide_eq_true (by omega)))
    have g1 : decide ((300 : Int) < (n : Int) + 1) = false := decide_eq_false (by omega)
    by_cases hbad2 : 30 < d
    · exact hmono rfl rfl (by simp only [Tm.smallRun]; rw [if_pos (by omega)]) (down_B m f hm1 hm2 hf1 hf2 w bn bm bd b o d n _ c a hbn hbm hbd hd' hn' gx gs hcn hfn hcm g1 (decide_eq_true (by omega)))
    have g2 : decide ((30 : Int) < (d : Int)) = false := decide_eq_false (by omega)
    by_cases hC : f < 0 ∧ f < -m
    · exact hmono rfl rfl (by simp only [Tm.smallRun]; rw [if_pos (by omega)]) (down_C m f hm1 hm2 hf1 hf2 w bn bm bd b o d n _ c a hbn hbm hbd hd' hn' gx gs hcn hfn hcm g1 g2 (decide_eq_true (by omega)) (decide_eq_true (by omega)))
    by_cases hD : f < 0 ∧ 0 < ks.length
    · exact hmono rfl rfl (by simp only [Tm.smallRun]; rw [if_pos (by omega)]) (down_D m f hm1 hm2 hf1 hf2 w bn bm bd b o d n _ c a hbn hbm hbd hd' hn' gx gs hcn hfn hcm g1 g2 (decide_eq_true (by omega)) (decide_eq_false (by omega)) hD.2)
    have hE : (decide (f < 0) = false) ∨ (decide (f < 0) = true ∧ decide (f < -m) = false ∧ decide (0 < ks.length) = false) := by
      by_cases hf : f < 0
      · right; exact ⟨decide_eq_true hf, decide_eq_false (by omega), decide_eq_false (by omega)⟩
      · left; exact decide_eq_false hf
    have Hspec := Lib.hid (show Tm.smallRun m (.mk f ks) d n = Tm.smallRuns m ks (d + 1) (n + 1) by simp only [Tm.smallRun]; rw [if_neg (by omega)])
    have Hih := Lib.hid ih
    simp only [Tm.size] at hsz
    have hkl := length_le_sizes ks
    have hA : n + 1 ≤ 300 := by omega
    have hB : d ≤ 30 := by omega
    clear ih hmono hbad hbad2 hC hD
    rcases hE with h3 | ⟨h3, h4, h5⟩
    all_goals
      go_enter Try.func70, Try.ntmps70
      go_wp2_with fail
      go_quiet (fail)
      go_wp2_with fail
      go_loopw [46] (fun i wr => ∃ k nk : Nat, k ≤ ks.length ∧ i = .int .i64 k ∧ nk ≤ 300 ∧ Tm.smallRuns m ks (d + 1) (n + 1) = Tm.smallRuns m (ks.drop k) (d + 1) nk ∧ Chg [bn] w wr ∧ wr.cell? ⟨bn, 0, none⟩ = some (.int .i64 nk) ∧ wr.frozen? ⟨bn, 0, none⟩ = false) (fun i _ => ks.length - (intOf i).toNat)
      case atStart => exact ⟨0, n + 1, Nat.zero_le _, rfl, by omega, rfl, ((Chg.refl _ _).setCell _ (.inl (by simp))).drewN _, World.cell?_setCell_same _ _ _ hcn, (World.frozen?_setCell _ _ _ _).trans hfn⟩
      case round =>
        obtain ⟨k, nk, hkk, rfl, hnk, hck, hchg, hcn', hfn'⟩ := hrel
        have Hck := Lib.hid hck; clear hck
        have gs' := hchg.cell gs (by simpa using hbn)
        have hcm' := hchg.cell hcm (by simpa using hbm)
        have hcd' := hchg.cell hcd (by simpa using hbd)
        have hext' : Ext w0 wr := Chg.ext hext hchg (by simp; omega)
        clear hcn hfn
        by_cases hlt : k < ks.length
        · have hi := Hih.out _ (List.getElem_mem hlt)
          obtain ⟨b', o', a', c', rfl, h1, h2, h3'⟩ := hk.look hlt
          have hi := hi wr.drew b' (o' + k * 2) _ _ (d + 1) nk (by have := size_le_sizes hlt; omega) h1 h2 h3' hext'.drew (by omega) (by omega) hnk hcn' hfn' hcm' hcd'
          have Hst := Lib.hid (smallRuns_step (m := m) (d := d + 1) (n := nk) hlt)
          rw [show ((d + 1 : Nat) : Int) = (d : Int) + 1 by omega] at hi
          have Hi := Lib.hid hi; clear hi
          have hcd2 := hcd'
          simp only [downV] at hcd2
          clear hcd hcm gs gx hx hs hcd'
          have hk1 : (k : Int) < ks.length := by omega
          have hdd : IntKind.i64.wrap ((d : Int) + 1) = (d : Int) + 1 := IntWalk.i64_in _ (by omega)
          go_wp2_with fail
          go_still_tail 9, (by kernel_rfl)
          change wpList _ _ _ _ _ wr.drew
          go_wp2_with ((with_reducible refine (Hi.out).mono ?_); rintro e w2 ⟨rfl, hc2, hn2, hf2'⟩)
          · go_ret
            have hb : (Tm.smallRun m ks[k] (d + 1) nk).fst = false := by simpa using ‹(!(Tm.smallRun m ks[k] (d + 1) nk).fst) = true›
            have h := (Hspec.out.trans Hck.out).trans Hst.out
            rw [hb, if_neg (by simp)] at h
            rw [h]
            exact ⟨rfl, hchg.drew.trans hc2, hn2, hf2'⟩
          · have hb : (Tm.smallRun m ks[k] (d + 1) nk).fst = true := by simpa using ‹(!(Tm.smallRun m ks[k] (d + 1) nk).fst) = false›
            have hq := smallRun_eq m ks[k] (d + 1) nk (by omega) hnk
            have hq1 := hq.1.1 hb
            have hq2 := hq.2 hb
            go_roundw
            case rel => exact ⟨k + 1, (Tm.smallRun m ks[k] (d + 1) nk).snd, by omega, by go_num, by omega, by rw [Hck.out, Hst.out, if_pos hb], hchg.drew.trans hc2, hn2, hf2'⟩
            case measure => simp [intOf]; omega
        · go_wp2_with fail
          go_ret
          have : k = ks.length := by omega
          subst this
          have h := Hspec.out.trans Hck.out
          rw [List.drop_length] at h
          rw [h]
          exact ⟨rfl, hchg, hcn', hfn'⟩

set_option maxHeartbeats 400000 in
theorem small_any (m : Int) (hm1 : -1048576 ≤ m) (hm2 : m ≤ 1048576) (t : Tm) (w : World) (x s : Value) (ht : IsTm w x s t) (hs : t.size ≤ 2097152) :
    Calls Try.prog 43 #[.agg #[x, s], .int .i64 m] w fun e w' => e = .returned (.bool (t.small m)) ∧ Ext w w' := by
  have ht' := ht
  obtain ⟨a, c, rfl, rfl, -, -, -, -⟩ := ht.form
  obtain ⟨c0, c1⟩ := cells2 w (.int .i64 t.f) (.slice a t.ks.length c) 30
  have ht0 := ht'.ext (ext_alloc w (.cells #[.int .i64 t.f, .slice a t.ks.length c] 30))
  obtain ⟨W, hW⟩ : ∃ W, W = ((((w.alloc (.cells #[.int .i64 t.f, .slice a t.ks.length c] 30)).alloc (.cells #[.int .i64 m] 3)).alloc (.cells #[.int .i64 0] 3)).alloc (.cells #[downV (w.heap.size + 1 + 1) (w.heap.size + 1) (w.heap.size + 1 + 1 + 1)] 102)) := ⟨_, rfl⟩
  have h := down_any m hm1 hm2 _ (w.heap.size + 1 + 1) (w.heap.size + 1) (w.heap.size + 1 + 1 + 1) (by simp) (by omega) (by omega) t W w.heap.size 0 _ _ 1 0 hs c0 c1 ht0 (by subst hW; go_grown) (Nat.le_refl _) (by omega) (by omega) (by subst hW; go_simp) (by subst hW; go_simp) (by subst hW; go_simp) (by subst hW; go_simp)
  rw [small_eq] at h
  have hx : Ext w W := by subst hW; go_grown
  subst hW
  have H := Lib.hid h; clear h
  have Hx := Lib.hid hx; clear hx
  clear c0 c1 ht ht' ht0
  go_enter Try.func43, Try.ntmps43
  go_wp2_with ((refine (H.out).mono ?_); rintro e w' ⟨rfl, hc, -, -⟩)
  go_ret
  exact ⟨rfl, hc.ext Hx.out (by simp; omega)⟩
end Go.Proofs.Ytapoedcmhdlpfaa
