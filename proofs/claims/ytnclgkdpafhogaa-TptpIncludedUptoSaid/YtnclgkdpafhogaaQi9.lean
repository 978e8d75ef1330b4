/- formula.Cursor.formula, unit. Condition: a row of at most 2^30 tokens, not empty.
formula.Caught, Read$1: a reading is caught where it panics. Condition: a row of at most 2^30 tokens, not empty. -/
import Derived.Test.YtnclgkdpafhogaaQi7
import Derived.Test.YtnclgkdpafhogaaQi8
import Derived.Defers
import Derived.Recover
import Derived.Laws.Pointers
namespace Go.Proofs.Ytnclgkdpafhogaa
open Go.ChangeShapes Go.WideShapes Go.ChangeAt Go.RowKit
theorem binary_cases {s : ByteArray} {b : Fm → Fm → Fm} (h : binary s = some b) : s = sImp ∨ s = sRev ∨ s = sIff ∨ s = sXor ∨ s = sNor ∨ s = sNand := by
  unfold binary at h
  repeat' split at h
  all_goals first
    | (cases h; done)
    | simp_all
theorem form_any {cb : Nat} {l : List Tok} (hl : l.length ≤ 1073741824) {n : Nat} (hU : UnitOK cb l n) {ks : List Tok} (hkn : ks.length ≤ n) {w : World} (h : Cur cb l w ks) :
    Calls Try.prog 41 #[.pointer (some ⟨cb, 0, none⟩)] w (RdPost isFm' cb l w (formStep rUnit ks)) := by
  cases hu : rUnit ks with
  | bad r => exact form_bad hU hkn h hu
  | ok f r =>
    by_cases h6 : (peekT r).kind = 6
    · cases r with
      | nil => exact absurd h6 (by decide)
      | cons t r =>
        have h6 : t.kind = 6 := h6
        by_cases ha : t.text = sAnd
        · exact form_and hl hU hkn h hu h6 ha
        · by_cases ho : t.text = sOr
          · exact form_or hl hU hkn h hu h6 ho
          · cases hb : binary t.text with
            | none => exact form_other hl hU hkn h hu h6 ha ho hb
            | some b =>
              rcases binary_cases hb with h1 | h1 | h1 | h1 | h1 | h1
              · exact form_imp hl hU hkn h hu h6 h1
              · exact form_rev hl hU hkn h hu h6 h1
              · exact form_iff hl hU hkn h hu h6 h1
              · exact form_xor hl hU hkn h hu h6 h1
              · exact form_nor hl hU hkn h hu h6 h1
              · exact form_nand hl hU hkn h hu h6 h1
    · exact form_end hl hU hkn h hu h6
theorem atomic_any {cb : Nat} {l : List Tok} (hl : l.length ≤ 1073741824) (hnel : 0 < l.length) {ks : List Tok} {w : World} (h : Cur cb l w ks) :
    Calls Try.prog 91 #[.pointer (some ⟨cb, 0, none⟩)] w (RdPost isFm' cb l w (rAtomic ks)) := by
  by_cases h3 : (peekT ks).kind = 3
  · by_cases ht : (peekT ks).text = sTrue
    · cases ks with
      | nil => exact absurd h3 (by decide)
      | cons t r => exact atomic_const hl h h3 true ht
    · by_cases hf : (peekT ks).text = sFalse
      · cases ks with
        | nil => exact absurd h3 (by decide)
        | cons t r => exact atomic_const hl h h3 false hf
      · exact atomic_dollar hl hnel h h3 ht hf
  · exact atomic_no hl hnel h h3
set_option maxHeartbeats 8000000 in
set_option maxRecDepth 100000 in
theorem unit_not {cb : Nat} {l : List Tok} (hl : l.length ≤ 1073741824) (_hnel : 0 < l.length) {n : Nat} (hU : UnitOK cb l n) {ks : List Tok} (hkn : ks.length ≤ n + 1) {w : World} (h : Cur cb l w ks) {r : List Tok} (h1 : takeS sNot ks = some r) :
    Calls Try.prog 63 #[.pointer (some ⟨cb, 0, none⟩)] w (RdPost isFm' cb l w (rUnit ks)) := by
  have HE := Lib.hid (show rUnit ks = (rUnit r).map fNot by rw [rUnit_eq]; unfold unitStep; rw [h1])
  have HT1 := Lib.hid (fun w' (h : Cur cb l w' ks) => take_yes hl h h1)
  simp only [sNot] at HT1
  have hrl := takeS_lt h1
  clear h1
  have HC := Lib.hid h
  have hlt := h.lt
  have hne : w.heap.size ≠ cb := by omega
  clear h
  obtain ⟨W, hW⟩ : ∃ W, W = w.alloc (.cells #[.int .i64 0, .slice none 0 0, .slice none 0 0, .slice none 0 0] 27) := ⟨_, rfl⟩
  have hx0 : Ext w W := by rw [hW]; exact ext_alloc _ _
  have hnW : Own W w.heap.size [.int .i64 0, .slice none 0 0, .slice none 0 0, .slice none 0 0] := by rw [hW]; exact own4 w _ _ _ _ _
  go_enter Try.func63, Try.ntmps63
  go_upto_region 2 with (first | (rw [← hW]; clear hW; go_at_call 64; with_reducible refine (HT1.out _ (HC.out.ext hx0)).mono ?_; rintro e w1 ⟨rfl, hcY, hx1'⟩; have hqY := Chg.trans (Chg.of_ext hx0) hx1'))
  have hnY := hnW.chg hx1' (by simpa using hne)
  have hnl := hnY.lt
  generalize w1 = Y at *
  clear HC HT1 hnW
  have HX := Lib.hid (hU r (by omega) Y hcY)
  have HO := Lib.hid (fun a n c w => of_any 5 a n c w)
  unfold RdPost at HX
  cases hk : rUnit r with
  | bad r2 =>
    rw [hk] at HX HE
    clear hk
    go_wp2_with (go_at_call 63; refine (HX.out).mono ?_; rintro e w6 ⟨hx6, rfl⟩)
    exact ⟨rfl, hqY.trans hx6, (by rw [HE.out]; rfl)⟩
  | ok g r2 =>
    rw [hk] at HX HE
    clear hk
    go_wp2_with (first | (go_at_call 63; refine (HX.out).mono ?_; rintro e w6 ⟨hx6, hc6, v, rfl, xa, xb, xc, xd, rfl, hg⟩; (have hg' := hg); (obtain ⟨d1, e1, d2, e2, d3, e3, rfl, rfl, rfl, rfl, -⟩ := hg'.form); clear hg'; have hn6 := hnY.chg hx6 (by simpa using hne)) | (go_at_call 65; refine (HO.out _ _ _ _).mono ?_; rintro e w7 ⟨rfl, hx7'⟩; have hx7 := (ext_alloc _ _).trans hx7'; (obtain ⟨⟨n0, g0⟩, ⟨n1, g1⟩, ⟨n2, g2⟩, ⟨n3, g3⟩⟩ := (hn6.ext hx7).cells4); have hnl6 := (hn6.ext hx7).lt))
    refine fin4_ret ((hqY.trans hx6).trans (Chg.of_ext hx7)) hlt (hc6.ext hx7) (hn6.ext hx7) (fun W2 r0 r1 r2 r3 => by simp [results, Try.results63, go_sem, r0, r1, r2, r3]) rfl fun W2 k1 k2 k3 => ⟨k2, ?_⟩
    rw [HE.out]
    refine ⟨k1, _, rfl, _, _, _, _, rfl, ?_⟩
    have h2 := fm_args (op := 5) (l := [g]) (c := 1) (by decide) (by decide) (Nat.le_refl _) (IsFms.ext (fms_one 27 (Dat.Fs.mono hg (Q := fun g => w.heap.size < g) fun g hg _ => (by omega)) (show w.heap.size < w6.heap.size from hn6.lt)) hx7')
    exact Dat.Fs.mono (Dat.Fs.chg h2 k3 (fun g hg => by simp; omega)) fun g hg _ => (show w.heap.size ≤ g by omega)
set_option maxHeartbeats 8000000 in
set_option maxRecDepth 100000 in
theorem unit_all {cb : Nat} {l : List Tok} (hl : l.length ≤ 1073741824) (hnel : 0 < l.length) {n : Nat} (hU : UnitOK cb l n) {ks : List Tok} (hkn : ks.length ≤ n + 1) {w : World} (h : Cur cb l w ks) (h1 : takeS sNot ks = none) {r : List Tok} (h2 : takeS sAll ks = some r) :
    Calls Try.prog 63 #[.pointer (some ⟨cb, 0, none⟩)] w (RdPost isFm' cb l w (rUnit ks)) := by
  have HE := Lib.hid (show rUnit ks = boundStep rUnit 11 r by rw [rUnit_eq]; unfold unitStep; rw [h1, h2])
  have HT1 := Lib.hid (fun w' (h : Cur cb l w' ks) => take_no hl h h1)
  simp only [sNot] at HT1
  have HT2 := Lib.hid (fun w' (h : Cur cb l w' ks) => take_yes hl h h2)
  simp only [sAll] at HT2
  have hrl := takeS_lt h2
  clear h1 h2
  have HC := Lib.hid h
  have hlt := h.lt
  have hne : w.heap.size ≠ cb := by omega
  clear h
  obtain ⟨W, hW⟩ : ∃ W, W = w.alloc (.cells #[.int .i64 0, .slice none 0 0, .slice none 0 0, .slice none 0 0] 27) := ⟨_, rfl⟩
  have hx0 : Ext w W := by rw [hW]; exact ext_alloc _ _
  have hnW : Own W w.heap.size [.int .i64 0, .slice none 0 0, .slice none 0 0, .slice none 0 0] := by rw [hW]; exact own4 w _ _ _ _ _
  go_enter Try.func63, Try.ntmps63
  go_upto_region 4 with (first | (rw [← hW]; clear hW; go_at_call 64; with_reducible refine (HT1.out _ (HC.out.ext hx0)).mono ?_; rintro e w1 ⟨rfl, hx1'⟩; have hx1 := hx0.trans hx1') | (go_at_call 64; with_reducible refine (HT2.out _ (HC.out.ext hx1)).mono ?_; rintro e w2 ⟨rfl, hcY, hx2'⟩; have hqY := Chg.trans (Chg.of_ext hx1) hx2'))
  have hnY := ((hnW.ext (hx1')).chg hx2' (by simpa using hne))
  have hnl := hnY.lt
  generalize w2 = Y at *
  clear HC HT1 HT2 hnW
  have HX := Lib.hid (bound_any hl hnel hU (show r.length ≤ n by omega) hcY 11 (by decide) (by decide))
  unfold RdPost at HX
  cases hk : boundStep rUnit 11 r with
  | bad r2 =>
    rw [hk] at HX HE
    clear hk
    go_wp2_with (go_at_call 90; refine (HX.out).mono ?_; rintro e w6 ⟨hx6, rfl⟩)
    exact ⟨rfl, hqY.trans hx6, (by rw [HE.out])⟩
  | ok g r2 =>
    rw [hk] at HX HE
    clear hk
    go_wp2_with (go_at_call 90; refine (HX.out).mono ?_; rintro e w6 ⟨hx6, hc6, v, rfl, xa, xb, xc, xd, rfl, hg⟩; (have hg' := hg); (obtain ⟨d1, e1, d2, e2, d3, e3, rfl, rfl, rfl, rfl, -⟩ := hg'.form); clear hg'; have hn6 := hnY.chg hx6 (by simpa using hne); (obtain ⟨⟨n0, g0⟩, ⟨n1, g1⟩, ⟨n2, g2⟩, ⟨n3, g3⟩⟩ := hn6.cells4); have hnl6 := hn6.lt)
    refine fin4_ret (hqY.trans hx6) hlt hc6 hn6 (fun W2 r0 r1 r2 r3 => by simp [results, Try.results63, go_sem, r0, r1, r2, r3]) rfl fun W2 k1 k2 k3 => ⟨k2, ?_⟩
    rw [HE.out]
    exact ⟨k1, _, rfl, _, _, _, _, rfl, Dat.Fs.mono (Dat.Fs.chg hg k3 (fun g hg => by simp; omega)) fun g hg _ => (by omega)⟩
set_option maxHeartbeats 8000000 in
set_option maxRecDepth 100000 in
theorem unit_some {cb : Nat} {l : List Tok} (hl : l.length ≤ 1073741824) (hnel : 0 < l.length) {n : Nat} (hU : UnitOK cb l n) {ks : List Tok} (hkn : ks.length ≤ n + 1) {w : World} (h : Cur cb l w ks) (h1 : takeS sNot ks = none) (h2 : takeS sAll ks = none) {r : List Tok} (h3 : takeS sSome ks = some r) :
    Calls Try.prog 63 #[.pointer (some ⟨cb, 0, none⟩)] w (RdPost isFm' cb l w (rUnit ks)) := by
  have HE := Lib.hid (show rUnit ks = boundStep rUnit 12 r by rw [rUnit_eq]; unfold unitStep; rw [h1, h2, h3])
  have HT1 := Lib.hid (fun w' (h : Cur cb l w' ks) => take_no hl h h1)
  simp only [sNot] at HT1
  have HT2 := Lib.hid (fun w' (h : Cur cb l w' ks) => take_no hl h h2)
  simp only [sAll] at HT2
  have HT3 := Lib.hid (fun w' (h : Cur cb l w' ks) => take_yes hl h h3)
  simp only [sSome] at HT3
  have hrl := takeS_lt h3
  clear h1 h2 h3
  have HC := Lib.hid h
  have hlt := h.lt
  have hne : w.heap.size ≠ cb := by omega
  clear h
  obtain ⟨W, hW⟩ : ∃ W, W = w.alloc (.cells #[.int .i64 0, .slice none 0 0, .slice none 0 0, .slice none 0 0] 27) := ⟨_, rfl⟩
  have hx0 : Ext w W := by rw [hW]; exact ext_alloc _ _
  have hnW : Own W w.heap.size [.int .i64 0, .slice none 0 0, .slice none 0 0, .slice none 0 0] := by rw [hW]; exact own4 w _ _ _ _ _
  go_enter Try.func63, Try.ntmps63
  go_upto_region 6 with (first | (rw [← hW]; clear hW; go_at_call 64; with_reducible refine (HT1.out _ (HC.out.ext hx0)).mono ?_; rintro e w1 ⟨rfl, hx1'⟩; have hx1 := hx0.trans hx1') | (go_at_call 64; with_reducible refine (HT2.out _ (HC.out.ext hx1)).mono ?_; rintro e w2 ⟨rfl, hx2'⟩; have hx2 := hx1.trans hx2') | (go_at_call 64; with_reducible refine (HT3.out _ (HC.out.ext hx2)).mono ?_; rintro e w3 ⟨rfl, hcY, hx3'⟩; have hqY := Chg.trans (Chg.of_ext hx2) hx3'))
  have hnY := ((hnW.ext ((hx1').trans hx2')).chg hx3' (by simpa using hne))
  have hnl := hnY.lt
  generalize w3 = Y at *
  clear HC HT1 HT2 HT3 hnW
  have HX := Lib.hid (bound_any hl hnel hU (show r.length ≤ n by omega) hcY 12 (by decide) (by decide))
  unfold RdPost at HX
  cases hk : boundStep rUnit 12 r with
  | bad r2 =>
    rw [hk] at HX HE
    clear hk
    go_wp2_with (go_at_call 90; refine (HX.out).mono ?_; rintro e w6 ⟨hx6, rfl⟩)
    exact ⟨rfl, hqY.trans hx6, (by rw [HE.out])⟩
  | ok g r2 =>
    rw [hk] at HX HE
    clear hk
    go_wp2_with (go_at_call 90; refine (HX.out).mono ?_; rintro e w6 ⟨hx6, hc6, v, rfl, xa, xb, xc, xd, rfl, hg⟩; (have hg' := hg); (obtain ⟨d1, e1, d2, e2, d3, e3, rfl, rfl, rfl, rfl, -⟩ := hg'.form); clear hg'; have hn6 := hnY.chg hx6 (by simpa using hne); (obtain ⟨⟨n0, g0⟩, ⟨n1, g1⟩, ⟨n2, g2⟩, ⟨n3, g3⟩⟩ := hn6.cells4); have hnl6 := hn6.lt)
    refine fin4_ret (hqY.trans hx6) hlt hc6 hn6 (fun W2 r0 r1 r2 r3 => by simp [results, Try.results63, go_sem, r0, r1, r2, r3]) rfl fun W2 k1 k2 k3 => ⟨k2, ?_⟩
    rw [HE.out]
    exact ⟨k1, _, rfl, _, _, _, _, rfl, Dat.Fs.mono (Dat.Fs.chg hg k3 (fun g hg => by simp; omega)) fun g hg _ => (by omega)⟩
set_option maxHeartbeats 8000000 in
set_option maxRecDepth 100000 in
theorem unit_par {cb : Nat} {l : List Tok} (hl : l.length ≤ 1073741824) (hnel : 0 < l.length) {n : Nat} (hU : UnitOK cb l n) {ks : List Tok} (hkn : ks.length ≤ n + 1) {w : World} (h : Cur cb l w ks) (h1 : takeS sNot ks = none) (h2 : takeS sAll ks = none) (h3 : takeS sSome ks = none) {r : List Tok} (h4 : takeS sLpar ks = some r) :
    Calls Try.prog 63 #[.pointer (some ⟨cb, 0, none⟩)] w (RdPost isFm' cb l w (rUnit ks)) := by
  have HE := Lib.hid (show rUnit ks = (formStep rUnit r).bind fun f r' => (mustS sRpar r').map fun _ => f by rw [rUnit_eq]; unfold unitStep; rw [h1, h2, h3, h4])
  have HT1 := Lib.hid (fun w' (h : Cur cb l w' ks) => take_no hl h h1)
  simp only [sNot] at HT1
  have HT2 := Lib.hid (fun w' (h : Cur cb l w' ks) => take_no hl h h2)
  simp only [sAll] at HT2
  have HT3 := Lib.hid (fun w' (h : Cur cb l w' ks) => take_no hl h h3)
  simp only [sSome] at HT3
  have HT4 := Lib.hid (fun w' (h : Cur cb l w' ks) => take_yes hl h h4)
  simp only [sLpar] at HT4
  have hrl := takeS_lt h4
  clear h1 h2 h3 h4
  have HC := Lib.hid h
  have hlt := h.lt
  have hne : w.heap.size ≠ cb := by omega
  clear h
  obtain ⟨W, hW⟩ : ∃ W, W = w.alloc (.cells #[.int .i64 0, .slice none 0 0, .slice none 0 0, .slice none 0 0] 27) := ⟨_, rfl⟩
  have hx0 : Ext w W := by rw [hW]; exact ext_alloc _ _
  have hnW : Own W w.heap.size [.int .i64 0, .slice none 0 0, .slice none 0 0, .slice none 0 0] := by rw [hW]; exact own4 w _ _ _ _ _
  go_enter Try.func63, Try.ntmps63
  go_upto_region 8 with (first | (rw [← hW]; clear hW; go_at_call 64; with_reducible refine (HT1.out _ (HC.out.ext hx0)).mono ?_; rintro e w1 ⟨rfl, hx1'⟩; have hx1 := hx0.trans hx1') | (go_at_call 64; with_reducible refine (HT2.out _ (HC.out.ext hx1)).mono ?_; rintro e w2 ⟨rfl, hx2'⟩; have hx2 := hx1.trans hx2') | (go_at_call 64; with_reducible refine (HT3.out _ (HC.out.ext hx2)).mono ?_; rintro e w3 ⟨rfl, hx3'⟩; have hx3 := hx2.trans hx3') | (go_at_call 64; with_reducible refine (HT4.out _ (HC.out.ext hx3)).mono ?_; rintro e w4 ⟨rfl, hcY, hx4'⟩; have hqY := Chg.trans (Chg.of_ext hx3) hx4'))
  have hnY := ((hnW.ext (((hx1').trans hx2').trans hx3')).chg hx4' (by simpa using hne))
  have hnl := hnY.lt
  generalize w4 = Y at *
  clear HC HT1 HT2 HT3 HT4 hnW
  have HX := Lib.hid (form_any hl hU (show r.length ≤ n by omega) hcY)
  unfold RdPost at HX
  cases hk : formStep rUnit r with
  | bad r2 =>
    rw [hk] at HX HE
    clear hk
    go_wp2_with (go_at_call 41; refine (HX.out).mono ?_; rintro e w6 ⟨hx6, rfl⟩)
    exact ⟨rfl, hqY.trans hx6, (by rw [HE.out]; rfl)⟩
  | ok g r2 =>
    rw [hk] at HX HE
    simp only [Rd.bind_ok] at HE
    clear hk
    cases hm : mustS sRpar r2 with
    | bad r3 =>
      have HM := Lib.hid (fun w' (h : Cur cb l w' r2) => must_no hl hnel h hm)
      rw [hm] at HE
      clear hm
      simp only [sRpar] at HM
      go_wp2_with (first | (go_at_call 41; refine (HX.out).mono ?_; rintro e w6 ⟨hx6, hc6, v, rfl, xa, xb, xc, xd, rfl, hg⟩; (have hg' := hg); (obtain ⟨d1, e1, d2, e2, d3, e3, rfl, rfl, rfl, rfl, -⟩ := hg'.form); clear hg') | (go_at_call 72; refine (HM.out _ (hc6.ext (ext_alloc _ _))).mono ?_; rintro e w7 ⟨rfl, hx7⟩))
      exact ⟨rfl, (hqY.trans hx6).trans (Chg.of_ext ((ext_alloc _ _).trans hx7)), (by rw [HE.out]; rfl)⟩
    | ok u r3 =>
      have HM := Lib.hid (fun w' (h : Cur cb l w' r2) => must_yes hl h hm)
      rw [hm] at HE
      clear hm
      simp only [sRpar] at HM
      go_wp2_with (first | (go_at_call 41; refine (HX.out).mono ?_; rintro e w6 ⟨hx6, hc6, v, rfl, xa, xb, xc, xd, rfl, hg⟩; (have hg' := hg); (obtain ⟨d1, e1, d2, e2, d3, e3, rfl, rfl, rfl, rfl, -⟩ := hg'.form); clear hg'; have hn6 := hnY.chg hx6 (by simpa using hne); have hb6 := own4 w6 (.int .i64 g.op) (.slice d1 g.vars.length e1) (.slice d2 g.terms.length e2) (.slice d3 g.args.length e3) 27; have hnl6 := hn6.lt) | (go_at_call 72; refine (HM.out _ (hc6.ext (ext_alloc _ _))).mono ?_; rintro e w7 ⟨rfl, hc7, hx7⟩; have hn7 := (hn6.ext (ext_alloc _ _)).chg hx7 (by simpa using hne); have hb7 := hb6.chg hx7 (by simp; omega); (obtain ⟨⟨n0, g0⟩, ⟨n1, g1⟩, ⟨n2, g2⟩, ⟨n3, g3⟩⟩ := hn7.cells4); (obtain ⟨⟨m0, -⟩, ⟨m1, -⟩, ⟨m2, -⟩, ⟨m3, -⟩⟩ := hb7.cells4); have hnl7 := hn7.lt))
      refine fin4_ret (((hqY.trans hx6).alloc _).trans hx7) hlt hc7 hn7 (fun W2 r0 r1 r2 r3 => by simp [results, Try.results63, go_sem, r0, r1, r2, r3]) rfl fun W2 k1 k2 k3 => ⟨k2, ?_⟩
      rw [HE.out]
      refine ⟨k1, _, rfl, _, _, _, _, rfl, ?_⟩
      have hcl := hqY.size
      exact Dat.Fs.mono (Dat.Fs.chg (Dat.Fs.chg (Dat.Fs.ext hg (ext_alloc _ _)) hx7 (fun g hg => by simp; omega)) k3 (fun g hg => by simp; omega)) fun g hg _ => (by omega)
set_option maxHeartbeats 8000000 in
set_option maxRecDepth 100000 in
theorem unit_atom {cb : Nat} {l : List Tok} (hl : l.length ≤ 1073741824) (hnel : 0 < l.length) {ks : List Tok} {w : World} (h : Cur cb l w ks) (h1 : takeS sNot ks = none) (h2 : takeS sAll ks = none) (h3 : takeS sSome ks = none) (h4 : takeS sLpar ks = none) :
    Calls Try.prog 63 #[.pointer (some ⟨cb, 0, none⟩)] w (RdPost isFm' cb l w (rUnit ks)) := by
  have HE := Lib.hid (show rUnit ks = rAtomic ks by rw [rUnit_eq]; unfold unitStep; rw [h1, h2, h3, h4])
  have HT1 := Lib.hid (fun w' (h : Cur cb l w' ks) => take_no hl h h1)
  simp only [sNot] at HT1
  have HT2 := Lib.hid (fun w' (h : Cur cb l w' ks) => take_no hl h h2)
  simp only [sAll] at HT2
  have HT3 := Lib.hid (fun w' (h : Cur cb l w' ks) => take_no hl h h3)
  simp only [sSome] at HT3
  have HT4 := Lib.hid (fun w' (h : Cur cb l w' ks) => take_no hl h h4)
  simp only [sLpar] at HT4
  clear h1 h2 h3 h4
  have HC := Lib.hid h
  have hlt := h.lt
  have hne : w.heap.size ≠ cb := by omega
  clear h
  obtain ⟨W, hW⟩ : ∃ W, W = w.alloc (.cells #[.int .i64 0, .slice none 0 0, .slice none 0 0, .slice none 0 0] 27) := ⟨_, rfl⟩
  have hx0 : Ext w W := by rw [hW]; exact ext_alloc _ _
  have hnW : Own W w.heap.size [.int .i64 0, .slice none 0 0, .slice none 0 0, .slice none 0 0] := by rw [hW]; exact own4 w _ _ _ _ _
  go_enter Try.func63, Try.ntmps63
  go_upto_region 11 with (first | (rw [← hW]; clear hW; go_at_call 64; with_reducible refine (HT1.out _ (HC.out.ext hx0)).mono ?_; rintro e w1 ⟨rfl, hx1'⟩; have hx1 := hx0.trans hx1') | (go_at_call 64; with_reducible refine (HT2.out _ (HC.out.ext hx1)).mono ?_; rintro e w2 ⟨rfl, hx2'⟩; have hx2 := hx1.trans hx2') | (go_at_call 64; with_reducible refine (HT3.out _ (HC.out.ext hx2)).mono ?_; rintro e w3 ⟨rfl, hx3'⟩; have hx3 := hx2.trans hx3') | (go_at_call 64; with_reducible refine (HT4.out _ (HC.out.ext hx3)).mono ?_; rintro e w4 ⟨rfl, hx4'⟩; have hx4 := hx3.trans hx4'))
  have hnY := hnW.ext ((((hx1').trans hx2').trans hx3').trans hx4')
  have hnl := hnY.lt
  have hcY := HC.out.ext hx4
  have hqY : Chg [cb] w w4 := Chg.of_ext hx4
  generalize w4 = Y at *
  clear HC HT1 HT2 HT3 HT4 hnW
  have HX := Lib.hid (atomic_any hl hnel hcY)
  unfold RdPost at HX
  cases hk : rAtomic ks with
  | bad r2 =>
    rw [hk] at HX HE
    clear hk
    go_wp2_with (go_at_call 91; refine (HX.out).mono ?_; rintro e w6 ⟨hx6, rfl⟩)
    exact ⟨rfl, hqY.trans hx6, (by rw [HE.out])⟩
  | ok g r2 =>
    rw [hk] at HX HE
    clear hk
    go_wp2_with (go_at_call 91; refine (HX.out).mono ?_; rintro e w6 ⟨hx6, hc6, v, rfl, xa, xb, xc, xd, rfl, hg⟩; (have hg' := hg); (obtain ⟨d1, e1, d2, e2, d3, e3, rfl, rfl, rfl, rfl, -⟩ := hg'.form); clear hg'; have hn6 := hnY.chg hx6 (by simpa using hne); (obtain ⟨⟨n0, g0⟩, ⟨n1, g1⟩, ⟨n2, g2⟩, ⟨n3, g3⟩⟩ := hn6.cells4); have hnl6 := hn6.lt)
    refine fin4_ret (hqY.trans hx6) hlt hc6 hn6 (fun W2 r0 r1 r2 r3 => by simp [results, Try.results63, go_sem, r0, r1, r2, r3]) rfl fun W2 k1 k2 k3 => ⟨k2, ?_⟩
    rw [HE.out]
    exact ⟨k1, _, rfl, _, _, _, _, rfl, Dat.Fs.mono (Dat.Fs.chg hg k3 (fun g hg => by simp; omega)) fun g hg _ => (by omega)⟩
theorem unit_step {cb : Nat} {l : List Tok} (hl : l.length ≤ 1073741824) (hnel : 0 < l.length) {n : Nat} (hU : UnitOK cb l n) : UnitOK cb l (n + 1) := fun ks hk w h => by
  cases h1 : takeS sNot ks with
  | some r => exact unit_not hl hnel hU hk h h1
  | none => cases h2 : takeS sAll ks with
    | some r => exact unit_all hl hnel hU hk h h1 h2
    | none => cases h3 : takeS sSome ks with
      | some r => exact unit_some hl hnel hU hk h h1 h2 h3
      | none => cases h4 : takeS sLpar ks with
        | some r => exact unit_par hl hnel hU hk h h1 h2 h3 h4
        | none => exact unit_atom hl hnel h h1 h2 h3 h4
theorem unit_any {cb : Nat} {l : List Tok} (hl : l.length ≤ 1073741824) (hnel : 0 < l.length) : ∀ n, UnitOK cb l n
  | 0 => fun ks hk w h => by
    have : ks = [] := List.eq_nil_of_length_eq_zero (by omega)
    subst this
    exact unit_atom hl hnel h rfl rfl rfl rfl
  | n + 1 => unit_step hl hnel (unit_any hl hnel n)
/-- a formula is read -/
theorem formula_any {cb : Nat} {l : List Tok} (hl : l.length ≤ 1073741824) (hnel : 0 < l.length) {ks : List Tok} {w : World} (h : Cur cb l w ks) :
    Calls Try.prog 41 #[.pointer (some ⟨cb, 0, none⟩)] w (RdPost isFm' cb l w (rForm ks)) := form_any hl (unit_any hl hnel ks.length) (Nat.le_refl _) h
end Go.Proofs.Ytnclgkdpafhogaa
namespace Go.Proofs.Ytnclgkdpafhogaa
open Go.ChangeShapes Go.WideShapes Go.ChangeAt Go.RowKit
set_option maxRecDepth 100000 in
theorem caught_idle (np lp : Addr) (w : World) :
    CallsD Try.prog 40 #[.pointer (some np), .pointer (some lp)] .returning w fun e u' w' => e = .returned (.tuple #[]) ∧ u' = .returning ∧ w' = w := by
  refine callsD_of_wpS Try.func40 rfl fun c₀ cs hu => ?_
  simp only [Try.ntmps40, List.size_toArray, List.length_cons, List.length_nil, Nat.reduceAdd, Nat.reduceSub, Array.replicate_succ, Array.replicate_zero, List.push_toArray, List.append_toArray, List.nil_append, List.cons_append]
  apply wpS_seq
  apply wpS_region
  simp [wpOpsS, go_sem, recoverD, hu, Exit.thenS]
  refine wpS_of_wp (wp_mono (Q := bodyPost Try.prog Try.f40 fun e w' => e = .returned (.tuple #[]) ∧ w' = w) ?_ ?_)
  · clear hu
    go_wp2
    go_returns
    exact ⟨rfl, rfl⟩
  · intro e a' w' h
    cases e with
    | normal => obtain ⟨hd, v, hr, h1, h2⟩ := h; injection h1 with h1; exact ⟨hd, .returning, by rw [← hu], v, hr, by rw [h1], rfl, h2⟩
    | ret => obtain ⟨hd, v, hr, h1, h2⟩ := h; injection h1 with h1; exact ⟨hd, .returning, by rw [← hu], v, hr, by rw [h1], rfl, h2⟩
    | exit i => exact h.elim
    | goto t => exact h.elim
    | panic ch => obtain ⟨_, h1, _⟩ := h; cases h1
    | outgrown => obtain ⟨h1, _⟩ := h; cases h1
set_option maxRecDepth 100000 in
theorem assert_wrong (x : Value) (w : World) : (Instr.typeAssert (.iface 115 x) 20 115 true).run Try.prog w = .ok (.tuple #[x, .bool true]) w := by kernel_rfl
set_option maxRecDepth 100000 in
theorem caught_wrong (nb lb n : Nat) (x : Int) (older : List PanicEntry) (w : World) (hn : Own w nb [.int .i64 x]) (hl : Own w lb [.bool false]) (hne : nb ≠ lb) :
    CallsD Try.prog 40 #[.pointer (some ⟨nb, 0, none⟩), .pointer (some ⟨lb, 0, none⟩)] (.panicking (wrongV n :: older)) w fun e u' w' =>
      e = .returned (.tuple #[]) ∧ u' = .panicking ({ wrongV n with recovered := true } :: older) ∧ w' = ((w.setCell ⟨nb, 0, none⟩ (.int .i64 n)).setCell ⟨lb, 0, none⟩ (.bool true)).alloc (.cells #[.int .i64 n] 115) := by
  have hnl := hn.lt
  have hll := hl.lt
  obtain ⟨c0, f0⟩ := hn 0 _ rfl
  obtain ⟨c1, f1⟩ := hl 0 _ rfl
  have hne' : lb ≠ nb := Ne.symm hne
  have hta := assert_wrong
  unfold wrongV
  refine callsD_of_wpS Try.func40 rfl fun c₀ cs hu => ?_
  simp only [Try.ntmps40, List.size_toArray, List.length_cons, List.length_nil, Nat.reduceAdd, Nat.reduceSub, Array.replicate_succ, Array.replicate_zero, List.push_toArray, List.append_toArray, List.nil_append, List.cons_append]
  apply wpS_seq
  apply wpS_region
  simp [wpOpsS, go_sem, recoverD, hu, Exit.thenS]
  refine wpS_of_wp (wp_mono (Q := bodyPost Try.prog Try.f40 fun e w' => e = .returned (.tuple #[]) ∧ w' = ((w.setCell ⟨nb, 0, none⟩ (.int .i64 n)).setCell ⟨lb, 0, none⟩ (.bool true)).alloc (.cells #[.int .i64 n] 115)) ?_ ?_)
  · clear hu
    go_wp2
    go_returns
    exact ⟨rfl, rfl⟩
  · intro e a' w' h
    cases e with
    | normal => obtain ⟨hd, v, hr, h1, h2⟩ := h; injection h1 with h1; exact ⟨hd, _, rfl, v, hr, by rw [h1], rfl, h2⟩
    | ret => obtain ⟨hd, v, hr, h1, h2⟩ := h; injection h1 with h1; exact ⟨hd, _, rfl, v, hr, by rw [h1], rfl, h2⟩
    | exit i => exact h.elim
    | goto t => exact h.elim
    | panic ch => obtain ⟨_, h1, _⟩ := h; cases h1
    | outgrown => obtain ⟨h1, _⟩ := h; cases h1
/-- what the function that reads and catches leaves: the formula, or the place of the token that can't stand there -/
def CatchPost (cb fb nb lb : Nat) (l : List Tok) (w : World) (rd : Rd Fm) (e : Ending) (w' : World) : Prop :=
  e = .returned (.tuple #[]) ∧ match rd with
  | .ok x r => Chg [cb, fb] w w' ∧ (∃ x0 x1 x2 x3, Own w' fb [x0, x1, x2, x3] ∧ IsFm (fun g => w.heap.size ≤ g) w' x0 x1 x2 x3 x) ∧ ∃ a c, Own w' cb [.slice a l.length c, .int .i64 (l.length - r.length : Nat)]
  | .bad r => Chg [cb, nb, lb] w w' ∧ Own w' nb [.int .i64 (badAt l r)] ∧ Own w' lb [.bool true]
set_option maxHeartbeats 1000000 in
set_option maxRecDepth 100000 in
theorem catch_any {cb : Nat} {l : List Tok} (hl : l.length ≤ 1073741824) (hnel : 0 < l.length) {ks : List Tok} {w : World} (h : Cur cb l w ks) {fb nb lb pb : Nat} {z0 z1 z2 z3 : Value}
    (hf : Own w fb [z0, z1, z2, z3]) (hn : Own w nb [.int .i64 0]) (hlb : Own w lb [.bool false]) (hp : w.cell? ⟨pb, 0, none⟩ = some (.pointer (some ⟨cb, 0, none⟩))) (h1 : fb ≠ cb) (h2 : nb ≠ cb) (h3 : lb ≠ cb) (h5 : nb ≠ lb) (h6 : fb < w.heap.size) :
    Calls Try.prog 39 #[.pointer (some ⟨nb, 0, none⟩), .pointer (some ⟨lb, 0, none⟩), .pointer (some ⟨pb, 0, none⟩), .pointer (some ⟨fb, 0, none⟩)] w (CatchPost cb fb nb lb l w (rForm ks)) := by
  have HF := Lib.hid (formula_any hl hnel h)
  unfold RdPost at HF
  cases hk : rForm ks with
  | bad r =>
    rw [hk] at HF
    clear hk
    go_enter_defers Try.func39, Try.ntmps39
    go_wp2_with (go_at_call 41; refine (HF.out).mono ?_; rintro e w1 ⟨hx1, rfl⟩)
    refine leaves_cons (f := 40) (args := #[.pointer (some ⟨nb, 0, none⟩), .pointer (some ⟨lb, 0, none⟩)]) (by simp) (by simp [go_sem]) ?_
    refine (caught_wrong nb lb (badAt l r) 0 [] w1 (hn.chg hx1 (by simpa using h2)) (hlb.chg hx1 (by simpa using h3)) h5).mono ?_
    rintro e u' w2 ⟨rfl, rfl, rfl⟩
    simp [Leaves, settle, results, Try.results39, go_sem]
    have hn1 := (hn.chg hx1 (by simpa using h2)).set (i := 0) (by simp) (.int .i64 (badAt l r))
    have hn2 := (hn1.chg ((Chg.refl [lb] _).setCell (p := ⟨lb, 0, none⟩) (.bool true) (.inl (by simp))) (by simpa using h5)).ext (ext_alloc _ (.cells #[.int .i64 (badAt l r)] 115))
    have hl1 := ((hlb.chg hx1 (by simpa using h3)).chg ((Chg.refl [nb] w1).setCell (p := ⟨nb, 0, none⟩) (.int .i64 (badAt l r)) (.inl (by simp))) (by simpa using Ne.symm h5)).set (i := 0) (by simp) (.bool true)
    exact ⟨rfl, (((hx1.mono (T := [cb, nb, lb]) (by simp)).setCell _ (.inl (by simp))).setCell _ (.inl (by simp))).alloc _, hn2, hl1.ext (ext_alloc _ _)⟩
  | ok x r =>
    rw [hk] at HF
    clear hk
    go_enter_defers Try.func39, Try.ntmps39
    go_wp2_with (go_at_call 41; refine (HF.out).mono ?_; rintro e w1 ⟨hx1, hc1, v, rfl, xa, xb, xc, xd, rfl, hv⟩; have hf1 := hf.chg hx1 (by simpa using h1); (obtain ⟨⟨n0, g0⟩, ⟨n1, g1⟩, ⟨n2, g2⟩, ⟨n3, g3⟩⟩ := hf1.cells4); (have hv' := hv); (obtain ⟨d1, e1, d2, e2, d3, e3, rfl, rfl, rfl, rfl, -⟩ := hv'.form); clear hv')
    refine leaves_cons (f := 40) (args := #[.pointer (some ⟨nb, 0, none⟩), .pointer (some ⟨lb, 0, none⟩)]) (by simp) (by simp [go_sem]) ?_
    refine (caught_idle ⟨nb, 0, none⟩ ⟨lb, 0, none⟩ _).mono ?_
    rintro e u' w2 ⟨rfl, rfl, rfl⟩
    simp [Leaves, settle, results, Try.results39, go_sem]
    obtain ⟨hsf, a, c, hcw, -, -⟩ := hc1
    have hch := chg_set4 w1 fb (.int .i64 x.op) (.slice d1 x.vars.length e1) (.slice d2 x.terms.length e2) (.slice d3 x.args.length e3)
    exact ⟨rfl, (hx1.mono (by simp)).trans (hch.mono (by simp)), ⟨_, _, _, _, own_set4 hf1 _ _ _ _, Dat.Fs.chg hv hch (fun g hg => by simp; omega)⟩, a, c, hcw.chg hch (by simpa using Ne.symm h1)⟩
end Go.Proofs.Ytnclgkdpafhogaa
