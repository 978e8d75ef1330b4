/- The reference's Reader: unit, Formula. Condition: a row of at most 2^30 tokens, not empty.
The reference's Read: a formula from tokens on. Condition: a row of at most 2097152 tokens.
syllogismref13.Parse. Condition: a text of at most 1048576 bytes.
The law's CopyExpr. Condition: at most 4194304 parts.
The law's Copy. Condition: at most 4194304 parts.
The program's Same, whole. Condition: at most 4194304 parts. -/
import Derived.Test.YtnclgkdpafhogaaGreatQ22
import Derived.Test.YtnclgkdpafhogaaGreatQ11
import Derived.Test.YtnclgkdpafhogaaGreatQ17
import Derived.Test.YtnclgkdpafhogaaGreatQ20
import Derived.Test.YtnclgkdpafhogaaGreatQ10
import Derived.Test.YtnclgkdpafhogaaGreatQ14
namespace Go.Proofs.YtnclgkdpafhogaaGreat
open Go.ChangeShapes Go.WideShapes Go.ChangeAt Go.RowKit
section
variable {rb : Nat} {l : List Tok}
set_option maxHeartbeats 4000000 in
set_option maxRecDepth 100000 in
theorem runit_bad (_hl : l.length ≤ 1073741820) {k : List Tok} {w : World} (h : RSt rb l w (.bad k)) :
    Calls Tryz.prog 83 #[.pointer (some ⟨rb, 0, none⟩)] w (RPost isFm' rb l w (Rd.bad k : Rd Fm)) := by
  have hlt := h.lt
  obtain ⟨W, hW⟩ : ∃ W, W = w.alloc (.cells #[.int .i64 0, .slice none 0 0, .slice none 0 0, .slice none 0 0] 29) := ⟨_, rfl⟩
  have hx : Ext w W := by rw [hW]; exact ext_alloc _ _
  have hnew : Own W w.heap.size [.int .i64 0, .slice none 0 0, .slice none 0 0, .slice none 0 0] := by rw [hW]; exact own4 w _ _ _ _ _
  have hst := h.ext hx
  obtain ⟨a, c, p, z, hown, hc, htk, hp, rfl⟩ := h.ext hx
  obtain ⟨z2, y2⟩ := hown 2 _ rfl
  clear hown htk h
  go_enter Tryz.func83, Tryz.ntmps83
  go_upto_region 1 with fail
  rw [← hW]
  clear hW
  have hVl := hst.lt
  have hnl := hnew.lt
  obtain ⟨⟨n0, g0⟩, ⟨n1, g1⟩, ⟨n2, g2⟩, ⟨n3, g3⟩⟩ := hnew.cells4
  go_wp2
  refine rfin4 (Chg.of_ext hx) (Nat.le_refl _) hlt hst hnew (fun W2 r0 r1 r2 r3 => by simp [results, Tryz.results83, go_sem, r0, r1, r2, r3]) rfl fun W2 k1 k2 k3 => ⟨k2, ?_⟩
  exact ⟨k1, _, .mk 0 [] [] [], rfl, ⟨_, _, _, _, rfl, IsFm.mk' (v := []) (t := []) (l := []) (by decide) (by decide) (Nat.le_refl _) (Nat.le_refl _) (Nat.le_refl _) strs_nil exs_nil fms_nil⟩, fun x k he => by cases he⟩

set_option maxHeartbeats 16000000 in
set_option maxRecDepth 100000 in
theorem runit_not (hl : l.length ≤ 1073741820) {n : Nat} (ih : RUnitOK rb l n) {u : Unit} {ks : List Tok} (hkn : ks.length ≤ n + 1) {w : World} (h : RSt rb l w (.ok u ks)) {r : List Tok} (h1 : takeS sNot ks = some r) :
    Calls Tryz.prog 83 #[.pointer (some ⟨rb, 0, none⟩)] w (RPost isFm' rb l w (rUnit ks)) := by
  have hl2 : l.length ≤ 1073741824 := by omega
  have HE := Lib.hid (show rUnit ks = (rUnit r).map fNot by rw [rUnit_eq]; unfold unitStep; rw [h1])
  have HT1 := Lib.hid (fun w' (h : RSt rb l w' (.ok u ks)) => (by have := rtake_any hl2 h sNot; rw [(takeSt_some h1).1, (takeSt_some h1).2] at this; exact this : Calls Tryz.prog 132 #[.pointer (some ⟨rb, 0, none⟩), .string sNot] w' fun e w'' => e = .returned (.bool true) ∧ RSt rb l w'' (.ok () r) ∧ Chg [rb] w' w''))
  simp only [sNot] at HT1
  have hrl := takeS_lt h1
  clear h1
  have hlt := h.lt
  have hne : w.heap.size ≠ rb := by omega
  obtain ⟨W, hW⟩ : ∃ W, W = w.alloc (.cells #[.int .i64 0, .slice none 0 0, .slice none 0 0, .slice none 0 0] 29) := ⟨_, rfl⟩
  have hx0 : Ext w W := by rw [hW]; exact ext_alloc _ _
  have hnW : Own W w.heap.size [.int .i64 0, .slice none 0 0, .slice none 0 0, .slice none 0 0] := by rw [hW]; exact own4 w _ _ _ _ _
  have hstW := h.ext hx0
  have hq0 : Chg [rb] w W := Chg.of_ext hx0
  obtain ⟨a, c, p, hown, -, -, -, -, -⟩ := hstW.good
  obtain ⟨z2, y2⟩ := hown 2 _ rfl
  clear hown h
  go_enter Tryz.func83, Tryz.ntmps83
  go_upto_region 1 with fail
  rw [← hW]
  clear hW
  have hVl := hstW.lt
  go_upto_region 4 with (first | (go_at_call 132; with_reducible refine (HT1.out _ hstW).mono ?_; rintro e w1 ⟨rfl, hst1, hx1⟩; have hq1 := hq0.trans hx1; have hn1 := hnW.chg hx1 (by simpa using hne)))
  have hstY := hst1
  have hqY := hq1
  have hnY := hn1
  clear HT1 z2 y2 hx1
  generalize w1 = Y at *
  have hnl := hnY.lt
  have HX := Lib.hid (ih (.ok () r) (by simp only [toGo]; omega) Y hstY)
  unfold RPost at HX
  simp only [Rd.bind_ok] at HX
  go_wp2_with (first
    | (go_at_call 86; refine (rof_any 5 (P := fun g => w.heap.size < g) (l := [g]) (c := 1) hFo (by simp)).mono ?_; rintro e w8 ⟨⟨a8, c8, rfl, hc8, hf8⟩, hx8⟩; have hx8' := (ext_alloc _ (.cells #[.int .i64 g.op, .slice b1 g.vars.length c1, .slice b2 g.terms.length c2, .slice b3 g.args.length c3] 29)).trans hx8; have hn8 := hn6.ext hx8'; have hst8 := hst6.ext hx8'; have hq8 := hq6.trans (Chg.of_ext hx8'); (have hf8' : IsFms (fun g => w.heap.size < g) w8 a8 [g] := Dat.Rows.mono hf8 fun g hg _ => by simp at hg; omega); simp only [List.length_cons, List.length_nil, Nat.zero_add]; simp only [List.length_cons, List.length_nil, Nat.zero_add] at hc8; (obtain ⟨⟨n0, g0⟩, ⟨n1, g1⟩, ⟨n2, g2⟩, ⟨n3, g3⟩⟩ := hn8.cells4); have hnl8 := hn8.lt)
    | (go_at_call 83; refine (HX.out).mono ?_; rintro e w6 ⟨hx6, hst6, v6, g, rfl, ⟨xa, xb, xc, xd, rfl, hg⟩, hval⟩; (obtain ⟨b1, c1, b2, c2, b3, c3, rfl, rfl, rfl, rfl⟩ := fm_vals hg); have hn6 := hnY.chg hx6 (by simpa using hne); have hnl6 := hn6.lt; have hq6 := hqY.trans hx6; have hFo := fms_one 29 (Dat.Fs.mono hg (Q := fun g => w.heap.size < g) fun g hg _ => (by omega)) hnl6))
  refine rfin4 hq8 (Nat.le_refl _) hlt hst8 hn8 (fun W2 r0 r1 r2 r3 => by simp [results, Tryz.results83, go_sem, r0, r1, r2, r3]) rfl fun W2 k1 k2 k3 => ⟨k2, ?_⟩
  rw [HE.out]
  refine ⟨?_, _, fNot g, rfl, ⟨_, _, _, _, rfl, fm_args (op := 5) (l := [g]) (by decide) (by decide) hc8 (Dat.Rows.mono (Dat.Rows.chg hf8' k3 (fun g hg => by simp; omega)) fun g hg _ => by omega)⟩, fun x k he => ?_⟩
  · cases hr : rUnit r with
    | bad k => rw [hr] at k1; exact k1
    | ok z k => rw [hr] at k1; exact k1
  · cases hr : rUnit r with
    | bad k => rw [hr] at he; cases he
    | ok z k => rw [hr] at he; injection he with he; rw [← he, hval z k hr]

set_option maxHeartbeats 16000000 in
set_option maxRecDepth 100000 in
theorem runit_all (hl : l.length ≤ 1073741820) {n : Nat} (ih : RUnitOK rb l n) {u : Unit} {ks : List Tok} (hkn : ks.length ≤ n + 1) {w : World} (h : RSt rb l w (.ok u ks)) (h1 : takeS sNot ks = none) {r : List Tok} (h2 : takeS sAll ks = some r) :
    Calls Tryz.prog 83 #[.pointer (some ⟨rb, 0, none⟩)] w (RPost isFm' rb l w (rUnit ks)) := by
  have hl2 : l.length ≤ 1073741824 := by omega
  have HE := Lib.hid (show rUnit ks = boundStep rUnit 11 r by rw [rUnit_eq]; unfold unitStep; rw [h1, h2])
  have HT1 := Lib.hid (fun w' (h : RSt rb l w' (.ok u ks)) => (by have := rtake_any hl2 h sNot; rw [(takeSt_none h1).1, (takeSt_none h1).2] at this; exact this : Calls Tryz.prog 132 #[.pointer (some ⟨rb, 0, none⟩), .string sNot] w' fun e w'' => e = .returned (.bool false) ∧ RSt rb l w'' (.ok () ks) ∧ Chg [rb] w' w''))
  simp only [sNot] at HT1
  have HT2 := Lib.hid (fun w' (h : RSt rb l w' (.ok u ks)) => (by have := rtake_any hl2 h sAll; rw [(takeSt_some h2).1, (takeSt_some h2).2] at this; exact this : Calls Tryz.prog 132 #[.pointer (some ⟨rb, 0, none⟩), .string sAll] w' fun e w'' => e = .returned (.bool true) ∧ RSt rb l w'' (.ok () r) ∧ Chg [rb] w' w''))
  simp only [sAll] at HT2
  have hrl := takeS_lt h2
  clear h1 h2
  have hlt := h.lt
  have hne : w.heap.size ≠ rb := by omega
  obtain ⟨W, hW⟩ : ∃ W, W = w.alloc (.cells #[.int .i64 0, .slice none 0 0, .slice none 0 0, .slice none 0 0] 29) := ⟨_, rfl⟩
  have hx0 : Ext w W := by rw [hW]; exact ext_alloc _ _
  have hnW : Own W w.heap.size [.int .i64 0, .slice none 0 0, .slice none 0 0, .slice none 0 0] := by rw [hW]; exact own4 w _ _ _ _ _
  have hstW := h.ext hx0
  have hq0 : Chg [rb] w W := Chg.of_ext hx0
  obtain ⟨a, c, p, hown, -, -, -, -, -⟩ := hstW.good
  obtain ⟨z2, y2⟩ := hown 2 _ rfl
  clear hown h
  go_enter Tryz.func83, Tryz.ntmps83
  go_upto_region 1 with fail
  rw [← hW]
  clear hW
  have hVl := hstW.lt
  go_upto_region 6 with (first | (go_at_call 132; with_reducible refine (HT1.out _ hstW).mono ?_; rintro e w1 ⟨rfl, hst1, hx1⟩; have hq1 := hq0.trans hx1; have hn1 := hnW.chg hx1 (by simpa using hne)) | (go_at_call 132; with_reducible refine (HT2.out _ hst1).mono ?_; rintro e w2 ⟨rfl, hst2, hx2⟩; have hq2 := hq1.trans hx2; have hn2 := hn1.chg hx2 (by simpa using hne)))
  have hstY := hst2
  have hqY := hq2
  have hnY := hn2
  clear HT1 HT2 z2 y2 hx1 hx2
  generalize w2 = Y at *
  have hnl := hnY.lt
  have HX := Lib.hid (rbound_any hl ih (by omega) hstY 11 (by decide) (by decide))
  unfold RPost at HX
  go_wp2_with (go_at_call 133; refine (HX.out).mono ?_; rintro e w6 ⟨hx6, hst6, v6, g, rfl, ⟨xa, xb, xc, xd, rfl, hg⟩, hval⟩; (obtain ⟨b1, c1, b2, c2, b3, c3, rfl, rfl, rfl, rfl⟩ := fm_vals hg); have hn6 := hnY.chg hx6 (by simpa using hne); have hnl6 := hn6.lt; have hq6 := hqY.trans hx6; (obtain ⟨⟨n0, g0⟩, ⟨n1, g1⟩, ⟨n2, g2⟩, ⟨n3, g3⟩⟩ := hn6.cells4))
  refine rfin4 hq6 (Nat.le_refl _) hlt hst6 hn6 (fun W2 r0 r1 r2 r3 => by simp [results, Tryz.results83, go_sem, r0, r1, r2, r3]) rfl fun W2 k1 k2 k3 => ⟨k2, ?_⟩
  rw [HE.out]
  exact ⟨k1, _, g, rfl, ⟨_, _, _, _, rfl, Dat.Fs.mono (Dat.Fs.chg hg k3 (fun g hg => by simp; omega)) fun g hg _ => by omega⟩, hval⟩

set_option maxHeartbeats 16000000 in
set_option maxRecDepth 100000 in
theorem runit_some (hl : l.length ≤ 1073741820) {n : Nat} (ih : RUnitOK rb l n) {u : Unit} {ks : List Tok} (hkn : ks.length ≤ n + 1) {w : World} (h : RSt rb l w (.ok u ks)) (h1 : takeS sNot ks = none) (h2 : takeS sAll ks = none) {r : List Tok} (h3 : takeS sSome ks = some r) :
    Calls Tryz.prog 83 #[.pointer (some ⟨rb, 0, none⟩)] w (RPost isFm' rb l w (rUnit ks)) := by
  have hl2 : l.length ≤ 1073741824 := by omega
  have HE := Lib.hid (show rUnit ks = boundStep rUnit 12 r by rw [rUnit_eq]; unfold unitStep; rw [h1, h2, h3])
  have HT1 := Lib.hid (fun w' (h : RSt rb l w' (.ok u ks)) => (by have := rtake_any hl2 h sNot; rw [(takeSt_none h1).1, (takeSt_none h1).2] at this; exact this : Calls Tryz.prog 132 #[.pointer (some ⟨rb, 0, none⟩), .string sNot] w' fun e w'' => e = .returned (.bool false) ∧ RSt rb l w'' (.ok () ks) ∧ Chg [rb] w' w''))
  simp only [sNot] at HT1
  have HT2 := Lib.hid (fun w' (h : RSt rb l w' (.ok u ks)) => (by have := rtake_any hl2 h sAll; rw [(takeSt_none h2).1, (takeSt_none h2).2] at this; exact this : Calls Tryz.prog 132 #[.pointer (some ⟨rb, 0, none⟩), .string sAll] w' fun e w'' => e = .returned (.bool false) ∧ RSt rb l w'' (.ok () ks) ∧ Chg [rb] w' w''))
  simp only [sAll] at HT2
  have HT3 := Lib.hid (fun w' (h : RSt rb l w' (.ok u ks)) => (by have := rtake_any hl2 h sSome; rw [(takeSt_some h3).1, (takeSt_some h3).2] at this; exact this : Calls Tryz.prog 132 #[.pointer (some ⟨rb, 0, none⟩), .string sSome] w' fun e w'' => e = .returned (.bool true) ∧ RSt rb l w'' (.ok () r) ∧ Chg [rb] w' w''))
  simp only [sSome] at HT3
  have hrl := takeS_lt h3
  clear h1 h2 h3
  have hlt := h.lt
  have hne : w.heap.size ≠ rb := by omega
  obtain ⟨W, hW⟩ : ∃ W, W = w.alloc (.cells #[.int .i64 0, .slice none 0 0, .slice none 0 0, .slice none 0 0] 29) := ⟨_, rfl⟩
  have hx0 : Ext w W := by rw [hW]; exact ext_alloc _ _
  have hnW : Own W w.heap.size [.int .i64 0, .slice none 0 0, .slice none 0 0, .slice none 0 0] := by rw [hW]; exact own4 w _ _ _ _ _
  have hstW := h.ext hx0
  have hq0 : Chg [rb] w W := Chg.of_ext hx0
  obtain ⟨a, c, p, hown, -, -, -, -, -⟩ := hstW.good
  obtain ⟨z2, y2⟩ := hown 2 _ rfl
  clear hown h
  go_enter Tryz.func83, Tryz.ntmps83
  go_upto_region 1 with fail
  rw [← hW]
  clear hW
  have hVl := hstW.lt
  go_upto_region 8 with (first | (go_at_call 132; with_reducible refine (HT1.out _ hstW).mono ?_; rintro e w1 ⟨rfl, hst1, hx1⟩; have hq1 := hq0.trans hx1; have hn1 := hnW.chg hx1 (by simpa using hne)) | (go_at_call 132; with_reducible refine (HT2.out _ hst1).mono ?_; rintro e w2 ⟨rfl, hst2, hx2⟩; have hq2 := hq1.trans hx2; have hn2 := hn1.chg hx2 (by simpa using hne)) | (go_at_call 132; with_reducible refine (HT3.out _ hst2).mono ?_; rintro e w3 ⟨rfl, hst3, hx3⟩; have hq3 := hq2.trans hx3; have hn3 := hn2.chg hx3 (by simpa using hne)))
  have hstY := hst3
  have hqY := hq3
  have hnY := hn3
  clear HT1 HT2 HT3 z2 y2 hx1 hx2 hx3
  generalize w3 = Y at *
  have hnl := hnY.lt
  have HX := Lib.hid (rbound_any hl ih (by omega) hstY 12 (by decide) (by decide))
  unfold RPost at HX
  go_wp2_with (go_at_call 133; refine (HX.out).mono ?_; rintro e w6 ⟨hx6, hst6, v6, g, rfl, ⟨xa, xb, xc, xd, rfl, hg⟩, hval⟩; (obtain ⟨b1, c1, b2, c2, b3, c3, rfl, rfl, rfl, rfl⟩ := fm_vals hg); have hn6 := hnY.chg hx6 (by simpa using hne); have hnl6 := hn6.lt; have hq6 := hqY.trans hx6; (obtain ⟨⟨n0, g0⟩, ⟨n1, g1⟩, ⟨n2, g2⟩, ⟨n3, g3⟩⟩ := hn6.cells4))
  refine rfin4 hq6 (Nat.le_refl _) hlt hst6 hn6 (fun W2 r0 r1 r2 r3 => by simp [results, Tryz.results83, go_sem, r0, r1, r2, r3]) rfl fun W2 k1 k2 k3 => ⟨k2, ?_⟩
  rw [HE.out]
  exact ⟨k1, _, g, rfl, ⟨_, _, _, _, rfl, Dat.Fs.mono (Dat.Fs.chg hg k3 (fun g hg => by simp; omega)) fun g hg _ => by omega⟩, hval⟩

theorem ratomic_any (hl : l.length ≤ 1073741820) {u : Unit} {ks : List Tok} {w : World} (h : RSt rb l w (.ok u ks)) :
    Calls Tryz.prog 135 #[.pointer (some ⟨rb, 0, none⟩)] w (RPost isFm' rb l w (rAtomic ks)) := by
  by_cases hc : (peekT ks).kind = 3 ∧ ((peekT ks).text = sTrue ∨ (peekT ks).text = sFalse)
  · cases ks with
    | nil => exact absurd hc.1 (by decide)
    | cons t r =>
      obtain ⟨h3, h4 | h4⟩ := hc
      · exact ratomic_const hl h h3 true h4
      · exact ratomic_const hl h h3 false h4
  · exact ratomic_term hl h hc

set_option maxHeartbeats 16000000 in
set_option maxRecDepth 100000 in
theorem runit_atom (hl : l.length ≤ 1073741820) {u : Unit} {ks : List Tok} {w : World} (h : RSt rb l w (.ok u ks)) (h1 : takeS sNot ks = none) (h2 : takeS sAll ks = none) (h3 : takeS sSome ks = none) (h4 : takeS sLpar ks = none) :
    Calls Tryz.prog 83 #[.pointer (some ⟨rb, 0, none⟩)] w (RPost isFm' rb l w (rUnit ks)) := by
  have hl2 : l.length ≤ 1073741824 := by omega
  have HE := Lib.hid (show rUnit ks = rAtomic ks by rw [rUnit_eq]; unfold unitStep; rw [h1, h2, h3, h4])
  have HT1 := Lib.hid (fun w' (h : RSt rb l w' (.ok u ks)) => (by have := rtake_any hl2 h sNot; rw [(takeSt_none h1).1, (takeSt_none h1).2] at this; exact this : Calls Tryz.prog 132 #[.pointer (some ⟨rb, 0, none⟩), .string sNot] w' fun e w'' => e = .returned (.bool false) ∧ RSt rb l w'' (.ok () ks) ∧ Chg [rb] w' w''))
  simp only [sNot] at HT1
  have HT2 := Lib.hid (fun w' (h : RSt rb l w' (.ok u ks)) => (by have := rtake_any hl2 h sAll; rw [(takeSt_none h2).1, (takeSt_none h2).2] at this; exact this : Calls Tryz.prog 132 #[.pointer (some ⟨rb, 0, none⟩), .string sAll] w' fun e w'' => e = .returned (.bool false) ∧ RSt rb l w'' (.ok () ks) ∧ Chg [rb] w' w''))
  simp only [sAll] at HT2
  have HT3 := Lib.hid (fun w' (h : RSt rb l w' (.ok u ks)) => (by have := rtake_any hl2 h sSome; rw [(takeSt_none h3).1, (takeSt_none h3).2] at this; exact this : Calls Tryz.prog 132 #[.pointer (some ⟨rb, 0, none⟩), .string sSome] w' fun e w'' => e = .returned (.bool false) ∧ RSt rb l w'' (.ok () ks) ∧ Chg [rb] w' w''))
  simp only [sSome] at HT3
  have HT4 := Lib.hid (fun w' (h : RSt rb l w' (.ok u ks)) => (by have := rtake_any hl2 h sLpar; rw [(takeSt_none h4).1, (takeSt_none h4).2] at this; exact this : Calls Tryz.prog 132 #[.pointer (some ⟨rb, 0, none⟩), .string sLpar] w' fun e w'' => e = .returned (.bool false) ∧ RSt rb l w'' (.ok () ks) ∧ Chg [rb] w' w''))
  simp only [sLpar] at HT4
  clear h1 h2 h3 h4
  have hlt := h.lt
  have hne : w.heap.size ≠ rb := by omega
  obtain ⟨W, hW⟩ : ∃ W, W = w.alloc (.cells #[.int .i64 0, .slice none 0 0, .slice none 0 0, .slice none 0 0] 29) := ⟨_, rfl⟩
  have hx0 : Ext w W := by rw [hW]; exact ext_alloc _ _
  have hnW : Own W w.heap.size [.int .i64 0, .slice none 0 0, .slice none 0 0, .slice none 0 0] := by rw [hW]; exact own4 w _ _ _ _ _
  have hstW := h.ext hx0
  have hq0 : Chg [rb] w W := Chg.of_ext hx0
  obtain ⟨a, c, p, hown, -, -, -, -, -⟩ := hstW.good
  obtain ⟨z2, y2⟩ := hown 2 _ rfl
  clear hown h
  go_enter Tryz.func83, Tryz.ntmps83
  go_upto_region 1 with fail
  rw [← hW]
  clear hW
  have hVl := hstW.lt
  go_upto_region 13 with (first | (go_at_call 132; with_reducible refine (HT1.out _ hstW).mono ?_; rintro e w1 ⟨rfl, hst1, hx1⟩; have hq1 := hq0.trans hx1; have hn1 := hnW.chg hx1 (by simpa using hne)) | (go_at_call 132; with_reducible refine (HT2.out _ hst1).mono ?_; rintro e w2 ⟨rfl, hst2, hx2⟩; have hq2 := hq1.trans hx2; have hn2 := hn1.chg hx2 (by simpa using hne)) | (go_at_call 132; with_reducible refine (HT3.out _ hst2).mono ?_; rintro e w3 ⟨rfl, hst3, hx3⟩; have hq3 := hq2.trans hx3; have hn3 := hn2.chg hx3 (by simpa using hne)) | (go_at_call 132; with_reducible refine (HT4.out _ hst3).mono ?_; rintro e w4 ⟨rfl, hst4, hx4⟩; have hq4 := hq3.trans hx4; have hn4 := hn3.chg hx4 (by simpa using hne)))
  have hstY := hst4
  have hqY := hq4
  have hnY := hn4
  clear HT1 HT2 HT3 HT4 z2 y2 hx1 hx2 hx3 hx4
  generalize w4 = Y at *
  have hnl := hnY.lt
  have HX := Lib.hid (ratomic_any hl hstY)
  unfold RPost at HX
  go_wp2_with (go_at_call 135; refine (HX.out).mono ?_; rintro e w6 ⟨hx6, hst6, v6, g, rfl, ⟨xa, xb, xc, xd, rfl, hg⟩, hval⟩; (obtain ⟨b1, c1, b2, c2, b3, c3, rfl, rfl, rfl, rfl⟩ := fm_vals hg); have hn6 := hnY.chg hx6 (by simpa using hne); have hnl6 := hn6.lt; have hq6 := hqY.trans hx6; (obtain ⟨⟨n0, g0⟩, ⟨n1, g1⟩, ⟨n2, g2⟩, ⟨n3, g3⟩⟩ := hn6.cells4))
  refine rfin4 hq6 (Nat.le_refl _) hlt hst6 hn6 (fun W2 r0 r1 r2 r3 => by simp [results, Tryz.results83, go_sem, r0, r1, r2, r3]) rfl fun W2 k1 k2 k3 => ⟨k2, ?_⟩
  rw [HE.out]
  exact ⟨k1, _, g, rfl, ⟨_, _, _, _, rfl, Dat.Fs.mono (Dat.Fs.chg hg k3 (fun g hg => by simp; omega)) fun g hg _ => by omega⟩, hval⟩

set_option maxHeartbeats 16000000 in
set_option maxRecDepth 100000 in
theorem runit_par (hl : l.length ≤ 1073741820) {n : Nat} (ih : RUnitOK rb l n) {u : Unit} {ks : List Tok} (hkn : ks.length ≤ n + 1) {w : World} (h : RSt rb l w (.ok u ks)) (h1 : takeS sNot ks = none) (h2 : takeS sAll ks = none) (h3 : takeS sSome ks = none) {r : List Tok} (h4 : takeS sLpar ks = some r) :
    Calls Tryz.prog 83 #[.pointer (some ⟨rb, 0, none⟩)] w (RPost isFm' rb l w (rUnit ks)) := by
  have hl2 : l.length ≤ 1073741824 := by omega
  have HE := Lib.hid (show rUnit ks = (formStep rUnit r).bind fun f r' => (mustS sRpar r').map fun _ => f by rw [rUnit_eq]; unfold unitStep; rw [h1, h2, h3, h4])
  have HT1 := Lib.hid (fun w' (h : RSt rb l w' (.ok u ks)) => (by have := rtake_any hl2 h sNot; rw [(takeSt_none h1).1, (takeSt_none h1).2] at this; exact this : Calls Tryz.prog 132 #[.pointer (some ⟨rb, 0, none⟩), .string sNot] w' fun e w'' => e = .returned (.bool false) ∧ RSt rb l w'' (.ok () ks) ∧ Chg [rb] w' w''))
  simp only [sNot] at HT1
  have HT2 := Lib.hid (fun w' (h : RSt rb l w' (.ok u ks)) => (by have := rtake_any hl2 h sAll; rw [(takeSt_none h2).1, (takeSt_none h2).2] at this; exact this : Calls Tryz.prog 132 #[.pointer (some ⟨rb, 0, none⟩), .string sAll] w' fun e w'' => e = .returned (.bool false) ∧ RSt rb l w'' (.ok () ks) ∧ Chg [rb] w' w''))
  simp only [sAll] at HT2
  have HT3 := Lib.hid (fun w' (h : RSt rb l w' (.ok u ks)) => (by have := rtake_any hl2 h sSome; rw [(takeSt_none h3).1, (takeSt_none h3).2] at this; exact this : Calls Tryz.prog 132 #[.pointer (some ⟨rb, 0, none⟩), .string sSome] w' fun e w'' => e = .returned (.bool false) ∧ RSt rb l w'' (.ok () ks) ∧ Chg [rb] w' w''))
  simp only [sSome] at HT3
  have HT4 := Lib.hid (fun w' (h : RSt rb l w' (.ok u ks)) => (by have := rtake_any hl2 h sLpar; rw [(takeSt_some h4).1, (takeSt_some h4).2] at this; exact this : Calls Tryz.prog 132 #[.pointer (some ⟨rb, 0, none⟩), .string sLpar] w' fun e w'' => e = .returned (.bool true) ∧ RSt rb l w'' (.ok () r) ∧ Chg [rb] w' w''))
  simp only [sLpar] at HT4
  have hrl := takeS_lt h4
  clear h1 h2 h3 h4
  have hlt := h.lt
  have hne : w.heap.size ≠ rb := by omega
  obtain ⟨W, hW⟩ : ∃ W, W = w.alloc (.cells #[.int .i64 0, .slice none 0 0, .slice none 0 0, .slice none 0 0] 29) := ⟨_, rfl⟩
  have hx0 : Ext w W := by rw [hW]; exact ext_alloc _ _
  have hnW : Own W w.heap.size [.int .i64 0, .slice none 0 0, .slice none 0 0, .slice none 0 0] := by rw [hW]; exact own4 w _ _ _ _ _
  have hstW := h.ext hx0
  have hq0 : Chg [rb] w W := Chg.of_ext hx0
  obtain ⟨a, c, p, hown, -, -, -, -, -⟩ := hstW.good
  obtain ⟨z2, y2⟩ := hown 2 _ rfl
  clear hown h
  go_enter Tryz.func83, Tryz.ntmps83
  go_upto_region 1 with fail
  rw [← hW]
  clear hW
  have hVl := hstW.lt
  go_upto_region 10 with (first | (go_at_call 132; with_reducible refine (HT1.out _ hstW).mono ?_; rintro e w1 ⟨rfl, hst1, hx1⟩; have hq1 := hq0.trans hx1; have hn1 := hnW.chg hx1 (by simpa using hne)) | (go_at_call 132; with_reducible refine (HT2.out _ hst1).mono ?_; rintro e w2 ⟨rfl, hst2, hx2⟩; have hq2 := hq1.trans hx2; have hn2 := hn1.chg hx2 (by simpa using hne)) | (go_at_call 132; with_reducible refine (HT3.out _ hst2).mono ?_; rintro e w3 ⟨rfl, hst3, hx3⟩; have hq3 := hq2.trans hx3; have hn3 := hn2.chg hx3 (by simpa using hne)) | (go_at_call 132; with_reducible refine (HT4.out _ hst3).mono ?_; rintro e w4 ⟨rfl, hst4, hx4⟩; have hq4 := hq3.trans hx4; have hn4 := hn3.chg hx4 (by simpa using hne)))
  have hstY := hst4
  have hqY := hq4
  have hnY := hn4
  clear HT1 HT2 HT3 HT4 z2 y2 hx1 hx2 hx3 hx4
  generalize w4 = Y at *
  have hnl := hnY.lt
  have HX := Lib.hid (rform_any hl ih (by omega) hstY)
  unfold RPost at HX
  go_upto_region 11 with (go_at_call 41; refine (HX.out).mono ?_; rintro e w6 ⟨hx6, hst6, v6, g, rfl, ⟨xa, xb, xc, xd, rfl, hg⟩, hval⟩; (obtain ⟨b1, c1, b2, c2, b3, c3, rfl, rfl, rfl, rfl⟩ := fm_vals hg))
  have hn6 := hnY.chg hx6 (by simpa using hne)
  have hq6 := hqY.trans hx6
  have hb6 := own4 w6 (.int .i64 g.op) (.slice b1 g.vars.length c1) (.slice b2 g.terms.length c2) (.slice b3 g.args.length c3) 29
  have hnl6 := hn6.lt
  have HM := Lib.hid (rmust_any hl2 (hst6.ext (ext_alloc _ (.cells #[.int .i64 g.op, .slice b1 g.vars.length c1, .slice b2 g.terms.length c2, .slice b3 g.args.length c3] 29))) sRpar)
  simp only [sRpar] at HM
  go_wp2_with (go_at_call 134; refine (HM.out).mono ?_; rintro e w7 ⟨rfl, hst7, hx7⟩; have hn7 := (hn6.ext (ext_alloc _ _)).chg hx7 (by simpa using hne); have hb7 := hb6.chg hx7 (by simp; omega); (obtain ⟨⟨n0, g0⟩, ⟨n1, g1⟩, ⟨n2, g2⟩, ⟨n3, g3⟩⟩ := hn7.cells4); (obtain ⟨⟨m0, -⟩, ⟨m1, -⟩, ⟨m2, -⟩, ⟨m3, -⟩⟩ := hb7.cells4); have hnl7 := hn7.lt)
  have hq7 := (hq6.alloc (.cells #[.int .i64 g.op, .slice b1 g.vars.length c1, .slice b2 g.terms.length c2, .slice b3 g.args.length c3] 29)).trans hx7
  refine rfin4 hq7 (Nat.le_refl _) hlt hst7 hn7 (fun W2 r0 r1 r2 r3 => by simp [results, Tryz.results83, go_sem, r0, r1, r2, r3]) rfl fun W2 k1 k2 k3 => ⟨k2, ?_⟩
  rw [HE.out]
  refine ⟨?_, _, g, rfl, ⟨_, _, _, _, rfl, Dat.Fs.mono (Dat.Fs.chg (Dat.Fs.chg (Dat.Fs.ext hg (ext_alloc _ _)) hx7 (fun g hg => by simp; omega)) k3 (fun g hg => by simp; omega)) fun g hg _ => (by omega)⟩, fun x k he => ?_⟩
  · cases hr : formStep rUnit r with
    | bad k => rw [hr] at k1; exact k1
    | ok z k =>
      rw [hr] at k1
      have k1 : RSt rb l W2 (mustS sRpar k) := k1
      simp only [Rd.bind_ok]
      cases hm : mustS sRpar k with
      | bad k2 => rw [hm] at k1; exact k1
      | ok u2 k2 => rw [hm] at k1; exact k1
  · cases hr : formStep rUnit r with
    | bad k => rw [hr] at he; cases he
    | ok z k =>
      rw [hr] at he
      simp only [Rd.bind_ok] at he
      cases hm : mustS sRpar k with
      | bad k2 => rw [hm] at he; cases he
      | ok u2 k2 => rw [hm] at he; injection he with he; rw [← he, hval z k hr]
theorem runit_zero (hl : l.length ≤ 1073741820) : RUnitOK rb l 0 := fun st hst w h => by
  cases st with
  | bad k => exact runit_bad hl h
  | ok u ks =>
    have : ks = [] := List.eq_nil_of_length_eq_zero (by simp only [toGo] at hst; omega)
    subst this
    exact runit_atom hl h rfl rfl rfl rfl
theorem runit_step (hl : l.length ≤ 1073741820) {n : Nat} (ih : RUnitOK rb l n) : RUnitOK rb l (n + 1) := fun st hst w h => by
  cases st with
  | bad k => exact runit_bad hl h
  | ok u ks =>
    have hkn : ks.length ≤ n + 1 := by simp only [toGo] at hst; omega
    simp only [Rd.bind_ok]
    cases h1 : takeS sNot ks with
    | some r => exact runit_not hl ih hkn h h1
    | none =>
      cases h2 : takeS sAll ks with
      | some r => exact runit_all hl ih hkn h h1 h2
      | none =>
        cases h3 : takeS sSome ks with
        | some r => exact runit_some hl ih hkn h h1 h2 h3
        | none =>
          cases h4 : takeS sLpar ks with
          | some r => exact runit_par hl ih hkn h h1 h2 h3 h4
          | none => exact runit_atom hl h h1 h2 h3 h4
theorem runit_any (hl : l.length ≤ 1073741820) : ∀ n, RUnitOK rb l n
  | 0 => runit_zero hl
  | n + 1 => runit_step hl (runit_any hl n)
theorem rformula_any (hl : l.length ≤ 1073741820) {u : Unit} {ks : List Tok} {w : World} (h : RSt rb l w (.ok u ks)) :
    Calls Tryz.prog 41 #[.pointer (some ⟨rb, 0, none⟩)] w (RPost isFm' rb l w (rForm ks)) := rform_any hl (runit_any hl ks.length) (Nat.le_refl _) h
end
end Go.Proofs.YtnclgkdpafhogaaGreat
namespace Go.Proofs.YtnclgkdpafhogaaGreat
open Go.ChangeShapes Go.WideShapes Go.ChangeAt Go.RowKit
theorem RSt.keep {α : Type} {rb : Nat} {l : List Tok} {S : List Nat} {w w' : World} {rd : Rd α} (h : RSt rb l w rd.st) (hx : Chg S w w') (hS : rb ∉ S) : ∃ (a : Option Addr) (c p : Nat) (z : Int), Own w' rb [.slice a l.length c, .int .i64 p, .int .i64 z] ∧ (∀ r, rd = .bad r → z = badAt l r) ∧ (∀ x r, rd = .ok x r → z = -1 ∧ p = l.length - r.length ∧ r <:+ l) := by
  obtain ⟨a, c, p, z, h1, h2, h3, h4, h5⟩ := h
  refine ⟨a, c, p, z, h1.chg hx hS, fun r he => ?_, fun x r he => ?_⟩
  · subst he; exact h5
  · subst he
    obtain ⟨g1, g2, g3⟩ := h5
    exact ⟨g3, by omega, g1⟩
set_option maxHeartbeats 4000000 in
set_option maxRecDepth 100000 in
theorem refRead_any (l : List Tok) (hl : l.length ≤ 2097152) {P : Nat → Prop} {w : World} {a : Option Addr} {c : Nat} (h : Dat.Rows P w a (l.map Tok.dat)) (hc : l.length ≤ c) (fr : Int) (hf1 : -9223372036854775808 ≤ fr) (hf2 : fr ≤ 9223372036854775807) :
    Calls Tryz.prog 13 #[.slice a l.length c, .int .i64 fr] w (ReadSays (readS l fr) w) := by
  obtain ⟨W, hW⟩ : ∃ W, W = w.alloc (.cells #[.int .i64 0, .slice none 0 0, .slice none 0 0, .slice none 0 0] 29) := ⟨_, rfl⟩
  have hx : Ext w W := by rw [hW]; exact ext_alloc _ _
  have hnew : Own W w.heap.size [.int .i64 0, .slice none 0 0, .slice none 0 0, .slice none 0 0] := by rw [hW]; exact own4 w _ _ _ _ _
  have hnl := hnew.lt
  obtain ⟨⟨n0, g0⟩, ⟨n1, g1⟩, ⟨n2, g2⟩, ⟨n3, g3⟩⟩ := hnew.cells4
  by_cases hfr : fr < 0 ∨ (l.length : Int) ≤ fr
  · have HE := Lib.hid (show readS l fr = (Fm.zero, 0, 230) by unfold readS; rw [if_pos hfr])
    clear h
    have hcase : decide (fr < 0) = true ∨ (decide (fr < 0) = false ∧ decide ((l.length : Int) ≤ fr) = true) := by
      by_cases h0 : fr < 0
      · exact .inl (decide_eq_true h0)
      · exact .inr ⟨decide_eq_false h0, decide_eq_true (by omega)⟩
    clear hfr
    rcases hcase with q1 | ⟨q1, q2⟩
    all_goals
      go_enter Tryz.func13, Tryz.ntmps13
      go_upto_region 1 with fail
      rw [← hW]
      clear hW
      go_wp2
      have hch := chg_set4 W w.heap.size (.int .i64 0) (.slice none 0 0) (.slice none 0 0) (.slice none 0 0)
      obtain ⟨r0, r1, r2, r3⟩ := own_res4 (own_set4 hnew (.int .i64 0) (.slice none 0 0) (.slice none 0 0) (.slice none 0 0))
      refine bodyPost_ret (v := .tuple #[.agg #[.int .i64 0, .slice none 0 0, .slice none 0 0, .slice none 0 0], .int .i64 0, .int .i64 230]) (by simp [results, Tryz.results13, go_sem, r0, r1, r2, r3]) rfl ?_
      rw [HE.out]
      exact ReadSays.mk rfl ⟨_, _, _, _, rfl, fm_zero⟩ (Chg.ext hx hch (by simp))
  · have hfr1 : 0 ≤ fr := by omega
    have hfr2 : fr < (l.length : Int) := by omega
    have q1 : decide (fr < 0) = false := decide_eq_false (by omega)
    have q2 : decide ((l.length : Int) ≤ fr) = false := decide_eq_false (by omega)
    obtain ⟨k, hk⟩ : ∃ k : Nat, fr = k := ⟨fr.toNat, by omega⟩
    subst hk
    have hk1 : k < l.length := by omega
    have HE := Lib.hid (show readS l k = match rForm (l.drop k) with
      | .bad r => (Fm.zero, ((badAt l r : Nat) : Int), (230 : Int))
      | .ok f r => if f.check ≠ 0 then (Fm.zero, (k : Int), f.check) else (f, ((l.length - r.length : Nat) : Int), 0) by
        unfold readS; rw [if_neg hfr, Int.toNat_natCast]; rfl)
    clear hfr hfr1 hf1 hf2
    obtain ⟨W2, hW2⟩ : ∃ W2, W2 = W.alloc (.cells #[.slice a l.length c, .int .i64 k, .int .i64 (-1)] 70) := ⟨_, rfl⟩
    have hx2 : Ext w W2 := by rw [hW2]; exact hx.alloc _
    have hst : RSt W.heap.size l W2 (.ok () (l.drop k)) := by
      refine ⟨a, c, k, -1, by rw [hW2]; exact own3 W _ _ _ _, hc, ?_, by omega, drop_suf, by rw [List.length_drop]; omega, rfl⟩
      exact Dat.Rows.ext (Dat.Rows.mono h fun g _ hlt => (show g < W.heap.size by omega)) hx2
    have hn2 : Own W2 w.heap.size [.int .i64 0, .slice none 0 0, .slice none 0 0, .slice none 0 0] := by rw [hW2]; exact hnew.ext (ext_alloc _ _)
    have hle := hx.size
    have hwW := hnl
    have hz : W.heap.size = w.heap.size + 1 := by rw [hW]; simp
    rw [hz] at hst
    clear hz
    have HF := Lib.hid (rformula_any (by omega) hst)
    unfold RPost at HF
    clear h hst n0 n1 n2 n3 g0 g1 g2 g3
    go_enter Tryz.func13, Tryz.ntmps13
    go_upto_region 5 with (rw [← hW, ← hW2]; go_at_call 41; refine (HF.out).mono ?_; rintro e w3 ⟨hx3, hst3, v3, f, rfl, ⟨xa, xb, xc, xd, rfl, hf⟩, hval⟩; (obtain ⟨b1, c1, b2, c2, b3, c3, rfl, rfl, rfl, rfl⟩ := fm_vals hf); have hn3 := hn2.chg hx3 (by simp); have hnl3 := hn3.lt; (obtain ⟨⟨n0, g0⟩, ⟨n1, g1⟩, ⟨n2, g2⟩, ⟨n3, g3⟩⟩ := hn3.cells4))
    obtain ⟨V, hV⟩ : ∃ V, V = (((w3.setCell ⟨w.heap.size, 0, none⟩ (.int .i64 f.op)).setCell ⟨w.heap.size, 1, none⟩ (.slice b1 f.vars.length c1)).setCell ⟨w.heap.size, 2, none⟩ (.slice b2 f.terms.length c2)).setCell ⟨w.heap.size, 3, none⟩ (.slice b3 f.args.length c3) := ⟨_, rfl⟩
    have hch := chg_set4 w3 w.heap.size (.int .i64 f.op) (.slice b1 f.vars.length c1) (.slice b2 f.terms.length c2) (.slice b3 f.args.length c3)
    have hn4 := own_set4 hn3 (.int .i64 f.op) (.slice b1 f.vars.length c1) (.slice b2 f.terms.length c2) (.slice b3 f.args.length c3)
    rw [← hV] at hch hn4 ⊢
    have hq4 : Ext w V := Chg.ext hx2 ((hx3.mono (T := [w.heap.size + 1, w.heap.size]) (by simp)).trans (hch.mono (by simp))) (by simp)
    have hn2l := hn2.lt
    have hf4 : IsFm (fun g => w.heap.size ≤ g ∧ g ≠ w.heap.size) V (.int .i64 f.op) (.slice b1 f.vars.length c1) (.slice b2 f.terms.length c2) (.slice b3 f.args.length c3) f := Dat.Fs.chg (Dat.Fs.mono hf (Q := fun g => w.heap.size ≤ g ∧ g ≠ w.heap.size) fun g hg _ => by omega) hch (fun g hg => by simpa using hg.2)
    have hst4 := hst3.keep hch (show w.heap.size + 1 ∉ [w.heap.size] by simp)
    obtain ⟨a4, c4, p, z, ho4, hz1, hz2⟩ := hst4
    clear n0 n1 n2 n3 g0 g1 g2 g3 hn3 hst3 hf hn2 hx3 hch HF hV
    obtain ⟨⟨n0, g0⟩, ⟨n1, g1⟩, ⟨n2, g2⟩, ⟨n3, g3⟩⟩ := hn4.cells4
    obtain ⟨z1, y1⟩ := ho4 1 _ rfl
    obtain ⟨z2, y2⟩ := ho4 2 _ rfl
    have hVl := hn4.lt
    have hVr := ho4.lt
    clear hW hW2
    cases hr : rForm (l.drop k) with
    | bad r =>
      have hz := hz1 r hr
      subst hz
      rw [hr] at HE
      clear hr hz1 hz2 hval
      go_upto_region 6 with fail
      go_region_with fail
      all_goals
        go_wp2
        have hch := chg_set4 V.drew w.heap.size (.int .i64 0) (.slice none 0 0) (.slice none 0 0) (.slice none 0 0)
        have hn5 := hn4.ext (Ext.drew (Below.refl _ V))
        obtain ⟨r0, r1, r2, r3⟩ := own_res4 (own_set4 hn5 (.int .i64 0) (.slice none 0 0) (.slice none 0 0) (.slice none 0 0))
        obtain ⟨s0, s1, s2, s3⟩ := own_res4 (own_set4 hn4 (.int .i64 0) (.slice none 0 0) (.slice none 0 0) (.slice none 0 0))
        refine bodyPost_ret (v := .tuple #[.agg #[.int .i64 0, .slice none 0 0, .slice none 0 0, .slice none 0 0], .int .i64 (badAt l r : Nat), .int .i64 230]) (by simp [results, Tryz.results13, go_sem, s0, s1, s2, s3]) rfl ?_
        rw [HE.out]
        exact ReadSays.mk rfl ⟨_, _, _, _, rfl, fm_zero⟩ (Chg.ext (hq4.trans (Ext.drew (Below.refl _ V))) hch (by simp))
    | ok x r =>
      obtain ⟨rfl, rfl, hsuf⟩ := hz2 x r hr
      have hxe := hval x r hr
      subst hxe
      have hfit := rForm_fits _ _ _ hr
      rw [hr] at HE
      replace HE := Lib.hid (show readS l k = if f.check ≠ 0 then (Fm.zero, (k : Int), f.check) else (f, ((l.length - r.length : Nat) : Int), 0) from HE.out)
      clear hr hz1 hz2 hval
      rw [List.length_drop] at hfit
      have HCk := Lib.hid (refCheck_any f _ V _ _ _ _ hf4 (by omega))
      obtain ⟨ck, hck⟩ : ∃ ck, ck = f.check := ⟨_, rfl⟩
      have hcr := check_range f
      rw [← hck] at HCk HE hcr
      have HCK := Lib.hid hck
      clear hck
      by_cases h0 : ck = 0
      · subst h0
        have HE := Lib.hid (HE.out.trans (if_neg (fun h => h rfl)))
        clear hcr
        go_upto_region 8 with (go_at_call 22; refine (HCk.out).mono ?_; rintro e w5 ⟨rfl, hx5⟩)
        have hn5 := hn4.ext hx5
        have ho5 := ho4.ext hx5
        have hf5 := IsFm.ext hf4 hx5
        have hq5 := hq4.trans hx5
        clear n0 n1 n2 n3 g0 g1 g2 g3 z1 y1 z2 y2 hn4 ho4 hf4 hq4 hVl hVr
        obtain ⟨⟨n0, g0⟩, ⟨n1, g1⟩, ⟨n2, g2⟩, ⟨n3, g3⟩⟩ := hn5.cells4
        obtain ⟨z1, y1⟩ := ho5 1 _ rfl
        have hVl := hn5.lt
        have hVr := ho5.lt
        go_upto_region 10 with fail
        go_region_with fail
        all_goals
          go_wp2
          have hch := chg_set4 w5.drew w.heap.size (.int .i64 f.op) (.slice b1 f.vars.length c1) (.slice b2 f.terms.length c2) (.slice b3 f.args.length c3)
          have hn6 := hn5.ext (Ext.drew (Below.refl _ w5))
          obtain ⟨s0, s1, s2, s3⟩ := own_res4 (own_set4 hn5 (.int .i64 f.op) (.slice b1 f.vars.length c1) (.slice b2 f.terms.length c2) (.slice b3 f.args.length c3))
          obtain ⟨r0, r1, r2, r3⟩ := own_res4 (own_set4 hn6 (.int .i64 f.op) (.slice b1 f.vars.length c1) (.slice b2 f.terms.length c2) (.slice b3 f.args.length c3))
          refine bodyPost_ret (v := .tuple #[.agg #[.int .i64 f.op, .slice b1 f.vars.length c1, .slice b2 f.terms.length c2, .slice b3 f.args.length c3], .int .i64 (l.length - r.length : Nat), .int .i64 0]) (by simp [results, Tryz.results13, go_sem, s0, s1, s2, s3]) rfl ?_
          rw [HE.out]
          exact ReadSays.mk rfl ⟨_, _, _, _, rfl, Dat.Fs.mono (Dat.Fs.chg (IsFm.ext hf5 (Ext.drew (Below.refl _ w5))) hch (fun g hg => by simpa using hg.2)) fun g hg _ => hg.1⟩ (Chg.ext (hq5.trans (Ext.drew (Below.refl _ w5))) hch (by simp))
      · have HE := Lib.hid (HE.out.trans (if_pos h0))
        have hq1 : (ck != 0) = true := by rw [bne_iff_ne]; exact h0
        clear h0
        go_wp2_with (go_at_call 22; refine (HCk.out).mono ?_; rintro e w5 ⟨rfl, hx5⟩; have hn5 := hn4.ext hx5; clear n0 n1 n2 n3 g0 g1 g2 g3; (obtain ⟨⟨n0, g0⟩, ⟨n1, g1⟩, ⟨n2, g2⟩, ⟨n3, g3⟩⟩ := hn5.cells4); have hnl5 := hn5.lt)
        have hch := chg_set4 w5 w.heap.size (.int .i64 0) (.slice none 0 0) (.slice none 0 0) (.slice none 0 0)
        obtain ⟨r0, r1, r2, r3⟩ := own_res4 (own_set4 hn5 (.int .i64 0) (.slice none 0 0) (.slice none 0 0) (.slice none 0 0))
        refine bodyPost_ret (v := .tuple #[.agg #[.int .i64 0, .slice none 0 0, .slice none 0 0, .slice none 0 0], .int .i64 k, .int .i64 ck]) (by simp [results, Tryz.results13, go_sem, r0, r1, r2, r3]) rfl ?_
        rw [HE.out]
        exact ReadSays.mk rfl ⟨_, _, _, _, rfl, fm_zero⟩ (Chg.ext (hq4.trans hx5) hch (by simp))
end Go.Proofs.YtnclgkdpafhogaaGreat
namespace Go.Proofs.YtnclgkdpafhogaaGreat
open Go.ChangeShapes Go.WideShapes Go.ChangeAt Go.RowKit
set_option maxHeartbeats 4000000 in
set_option maxRecDepth 100000 in
theorem refParse_any (s : ByteArray) (hs : s.size ≤ 1048576) (w : World) : Calls Tryz.prog 16 #[.string s] w (ReadSays (parseS s) w) := by
  obtain ⟨W, hW⟩ : ∃ W, W = w.alloc (.cells #[.int .i64 0, .slice none 0 0, .slice none 0 0, .slice none 0 0] 29) := ⟨_, rfl⟩
  have hx0 : Ext w W := by rw [hW]; exact ext_alloc _ _
  have hnb : Own W w.heap.size [.int .i64 0, .slice none 0 0, .slice none 0 0, .slice none 0 0] := by rw [hW]; exact own4 w _ _ _ _ _
  have hnl := hnb.lt
  have HC := Lib.hid (refCut_any s hs W)
  have hends := fun h => cutS_ends (s := s) h
  have hlen := cutS_len s
  have HE := Lib.hid (show parseS s = parseC (cutS s) from rfl)
  generalize cutS s = ct at HC HE hends hlen
  unfold parseC at HE
  obtain ⟨l, at', er⟩ := ct
  simp only at HE hends hlen
  by_cases h0 : er = 0
  case neg =>
    have q1 : (er != 0) = true := by rw [bne_iff_ne]; exact h0
    replace HE := Lib.hid (HE.out.trans (if_pos h0))
    clear h0 hends
    go_enter Tryz.func16, Tryz.ntmps16
    go_wp2_with (rw [← hW]; clear hW; go_at_call 44; refine (HC.out).mono ?_; rintro e w1 ⟨⟨v, rfl, hv⟩, hx1⟩; have hn1 := hnb.ext hx1; have hnl1 := hn1.lt; (obtain ⟨⟨n0, g0⟩, ⟨n1, g1⟩, ⟨n2, g2⟩, ⟨n3, g3⟩⟩ := hn1.cells4))
    have hch := chg_set4 w1 w.heap.size (.int .i64 0) (.slice none 0 0) (.slice none 0 0) (.slice none 0 0)
    obtain ⟨y0, y1, y2, y3⟩ := own_res4 (own_set4 hn1 (.int .i64 0) (.slice none 0 0) (.slice none 0 0) (.slice none 0 0))
    refine bodyPost_ret (v := .tuple #[.agg #[.int .i64 0, .slice none 0 0, .slice none 0 0, .slice none 0 0], .int .i64 (at' : Nat), .int .i64 er]) (by simp [results, Tryz.results16, go_sem, y0, y1, y2, y3]) rfl ?_
    rw [HE.out]
    exact ReadSays.mk rfl ⟨_, _, _, _, rfl, fm_zero⟩ (Chg.ext (hx0.trans hx1) hch (by simp))
  case pos =>
    subst h0
    replace HE := Lib.hid (HE.out.trans (if_neg (fun h => h rfl)))
    have hE := hends rfl
    obtain ⟨hr1, hr2, hr3⟩ := readS_range hE
    have hlp := hE.pos
    clear hends
    have HRD := Lib.hid (fun (w1 : World) (P : Nat → Prop) (a : Option Addr) (c : Nat) (h : Dat.Rows P w1 a (l.map Tok.dat)) (hc : l.length ≤ c) => refRead_any l (by omega) h hc 0 (by decide) (by decide))
    generalize readS l 0 = rd at HE hr1 hr2 hr3 HRD
    obtain ⟨f, nx, er⟩ := rd
    simp only at HE hr1 hr2 hr3
    obtain ⟨i, hi⟩ : ∃ i : Nat, nx = i := ⟨nx.toNat, by omega⟩
    subst hi
    have hil : i < l.length := by omega
    have htk := tokOf_lt (l := l) (i := (i : Int)) (by omega) (by omega)
    simp only [Int.toNat_natCast] at htk
    rw [htk] at HE
    clear htk hE
    go_enter Tryz.func16, Tryz.ntmps16
    go_upto_region 5 with (first
      | (rw [← hW]; clear hW; go_at_call 44; refine (HC.out).mono ?_; rintro e w1 ⟨⟨v, rfl, hv⟩, hx1⟩; (obtain ⟨a, c, rfl, hc, hd⟩ := GRow.dat (by decide) hv); rw [List.length_map] at hc; simp only [List.length_map]; have hn1 := hnb.ext hx1)
      | (go_at_call 13; refine (HRD.out w1 _ a c hd hc).mono ?_; rintro e w2 ⟨⟨v2, rfl, x0, x1, x2, x3, rfl, hfm⟩, hx2⟩; have hn2 := hn1.ext hx2; have hnl2 := hn2.lt; (obtain ⟨b1, c1, b2, c2, b3, c3, rfl, rfl, rfl, rfl⟩ := fm_vals hfm); (obtain ⟨⟨n0, g0⟩, ⟨n1, g1⟩, ⟨n2, g2⟩, ⟨n3, g3⟩⟩ := hn2.cells4)))
    obtain ⟨V, hV⟩ : ∃ V, V = (((w2.setCell ⟨w.heap.size, 0, none⟩ (.int .i64 f.op)).setCell ⟨w.heap.size, 1, none⟩ (.slice b1 f.vars.length c1)).setCell ⟨w.heap.size, 2, none⟩ (.slice b2 f.terms.length c2)).setCell ⟨w.heap.size, 3, none⟩ (.slice b3 f.args.length c3) := ⟨_, rfl⟩
    have hch := chg_set4 w2 w.heap.size (.int .i64 f.op) (.slice b1 f.vars.length c1) (.slice b2 f.terms.length c2) (.slice b3 f.args.length c3)
    have hn4 := own_set4 hn2 (.int .i64 f.op) (.slice b1 f.vars.length c1) (.slice b2 f.terms.length c2) (.slice b3 f.args.length c3)
    rw [← hV] at hch hn4 ⊢
    have hd4 : Dat.Rows (fun g => W.heap.size ≤ g) V a (l.map Tok.dat) := Dat.Rows.chg (Dat.Rows.ext hd hx2) hch (fun g hg => by simp; omega)
    have htoks : IsToks V.heap.size V a l := Dat.Rows.mono hd4 fun g _ hlt => hlt
    have hle1 := hx1.size
    have hfm4 : IsFm (fun g => W.heap.size ≤ g) V (.int .i64 f.op) (.slice b1 f.vars.length c1) (.slice b2 f.terms.length c2) (.slice b3 f.args.length c3) f := Dat.Fs.mono (Dat.Fs.chg hfm hch (fun g hg => by simp; omega)) fun g hg _ => by omega
    have hxV : Ext w V := Chg.ext ((hx0.trans hx1).trans hx2) hch (by simp)
    obtain ⟨tb', tof', htb, htbW⟩ := Dat.Rows.addr hd4 (by rw [List.length_map]; omega)
    obtain ⟨tb, tof, rfl, -, t0, t1, t2, -⟩ := htoks.look hil
    injection htb with htb; injection htb with htb1 htb2 _
    subst htb1; subst htb2
    have htn : tb ≠ w.heap.size := by omega
    have htn2 : w.heap.size ≠ tb := by omega
    have htl := cell_lt t0
    clear n0 n1 n2 n3 g0 g1 g2 g3 hn2 hn1 hnb hV hch hd hd4 htoks hfm hx0 hx1 hx2 HC HRD hv hnl2
    obtain ⟨⟨n0, g0⟩, ⟨n1, g1⟩, ⟨n2, g2⟩, ⟨n3, g3⟩⟩ := hn4.cells4
    have hVl := hn4.lt
    have hil2 : (i : Int) < l.length := by omega
    generalize l[i] = tk at *
    by_cases h0 : er = 0
    case neg =>
      have q1 : (er != 0) = true := by rw [bne_iff_ne]; exact h0
      replace HE := Lib.hid (HE.out.trans (if_pos h0))
      clear h0 hr3
      go_upto_region 6 with fail
      go_cut [3, 4] from 26 to 32 (fun x y wx => x = .int .i64 tk.at' ∧ y = .int .i64 er ∧ Own wx w.heap.size [.int .i64 0, .slice none 0 0, .slice none 0 0, .slice none 0 0] ∧ Chg [w.heap.size] V wx)
      case first =>
        go_region_with fail
        all_goals
          go_wp2_with fail
          go_meet
          exact ⟨rfl, rfl, (own_set4 hn4 (.int .i64 0) (.slice none 0 0) (.slice none 0 0) (.slice none 0 0)).ext (Ext.drew (Below.refl _ _)), (chg_set4 V w.heap.size (.int .i64 0) (.slice none 0 0) (.slice none 0 0) (.slice none 0 0)).trans (Chg.of_ext (Ext.drew (Below.refl _ _)))⟩
      case rest =>
        obtain ⟨rfl, rfl, h1, h2⟩ := hcut
        obtain ⟨y0, y1, y2, y3⟩ := own_res4 h1
        go_wp2_with fail
        refine bodyPost_ret (v := .tuple #[.agg #[.int .i64 0, .slice none 0 0, .slice none 0 0, .slice none 0 0], .int .i64 tk.at', .int .i64 er]) (by simp [results, Tryz.results16, go_sem, y0, y1, y2, y3]) rfl ?_
        rw [HE.out]
        exact ReadSays.mk rfl ⟨_, _, _, _, rfl, fm_zero⟩ (Chg.ext hxV h2 (by simp))
    case pos =>
      subst h0
      replace HE := Lib.hid (HE.out.trans (if_neg (fun h => h rfl)))
      clear hr3
      by_cases h7 : tk.kind = 7
      case neg =>
        have q2 : (tk.kind != 7) = true := by rw [bne_iff_ne]; exact h7
        replace HE := Lib.hid (HE.out.trans (if_pos h7))
        clear h7
        have q3 : decide ((l.length : Int) ≤ (i : Nat)) = false := decide_eq_false (by omega)
        have hm1 : IntKind.i64.wrap ((l.length : Int) - 1) = (l.length : Int) - 1 := IntWalk.i64_in _ (by omega)
        have hmin : min (i : Int) ((l.length : Int) - 1) = i := Int.min_eq_left (by omega)
        go_upto_region 8 with fail
        go_cut [3, 4] from 45 to 54 (fun x y wx => x = .int .i64 tk.at' ∧ y = .int .i64 230 ∧ Own wx w.heap.size [.int .i64 0, .slice none 0 0, .slice none 0 0, .slice none 0 0] ∧ Chg [w.heap.size] V wx)
        case first =>
          go_region_with fail
          all_goals
            go_wp2_with fail
            go_meet
            exact ⟨rfl, rfl, (own_set4 hn4 (.int .i64 0) (.slice none 0 0) (.slice none 0 0) (.slice none 0 0)).ext (Ext.drew (Below.refl _ _)), (chg_set4 V w.heap.size (.int .i64 0) (.slice none 0 0) (.slice none 0 0) (.slice none 0 0)).trans (Chg.of_ext (Ext.drew (Below.refl _ _)))⟩
        case rest =>
          obtain ⟨rfl, rfl, h1, h2⟩ := hcut
          obtain ⟨y0, y1, y2, y3⟩ := own_res4 h1
          go_wp2_with fail
          refine bodyPost_ret (v := .tuple #[.agg #[.int .i64 0, .slice none 0 0, .slice none 0 0, .slice none 0 0], .int .i64 tk.at', .int .i64 230]) (by simp [results, Tryz.results16, go_sem, y0, y1, y2, y3]) rfl ?_
          rw [HE.out]
          exact ReadSays.mk rfl ⟨_, _, _, _, rfl, fm_zero⟩ (Chg.ext hxV h2 (by simp))
      case pos =>
        have q2 : (tk.kind != 7) = false := by rw [bne_eq_false_iff_eq]; exact h7
        replace HE := Lib.hid (HE.out.trans (if_neg (fun h => h h7)))
        have q3 : decide ((l.length : Int) ≤ (i : Nat)) = false := decide_eq_false (by omega)
        clear h7
        go_wp2_with fail
        have hch := chg_set4 V w.heap.size (.int .i64 f.op) (.slice b1 f.vars.length c1) (.slice b2 f.terms.length c2) (.slice b3 f.args.length c3)
        obtain ⟨y0, y1, y2, y3⟩ := own_res4 (own_set4 hn4 (.int .i64 f.op) (.slice b1 f.vars.length c1) (.slice b2 f.terms.length c2) (.slice b3 f.args.length c3))
        refine bodyPost_ret (v := .tuple #[.agg #[.int .i64 f.op, .slice b1 f.vars.length c1, .slice b2 f.terms.length c2, .slice b3 f.args.length c3], .int .i64 0, .int .i64 0]) (by simp [results, Tryz.results16, go_sem, y0, y1, y2, y3]) rfl ?_
        rw [HE.out]
        exact ReadSays.mk rfl ⟨_, _, _, _, rfl, Dat.Fs.mono (Dat.Fs.chg hfm4 hch (fun g hg => by simp; omega)) fun g hg _ => by omega⟩ (Chg.ext hxV hch (by simp))
end Go.Proofs.YtnclgkdpafhogaaGreat
namespace Go.Proofs.YtnclgkdpafhogaaGreat
open Go.ChangeShapes Go.WideShapes Go.ChangeAt Go.RowKit
set_option maxHeartbeats 8000000 in
set_option maxRecDepth 100000 in
theorem lawCopyExpr_any (t : Ex) : ∀ (P : Nat → Prop) (w : World) (x y z : Value), IsEx P w x y z t → t.size ≤ 4194304 →
    Calls Tryz.prog 48 #[.agg #[x, y, z]] w fun e w' => (∃ v, e = .returned v ∧ isEx' (fun g => w.heap.size ≤ g) w' v t) ∧ Ext w w' := by
  induction t using Ex.ind with
  | h v nm l ih =>
    intro P w x y z ht hs
    obtain ⟨a, c, rfl, rfl, rfl, hn, hc1, hk⟩ := ht.form
    simp only [Ex.var, Ex.name, Ex.args] at hn hc1 hk ⊢
    simp only [Ex.size] at hs
    have hkl := Ex.length_le_sizes l
    obtain ⟨i0, hi0, hz0, hz1', hz2'⟩ := info_parts infoEx
    have HIH := Lib.hid ih
    clear ih ht
    go_enter Tryz.func48, Tryz.ntmps48
    go_wp2_with fail
    obtain ⟨W0, hW0⟩ : ∃ W0, W0 = ((w.alloc (.cells #[.bool v, .string nm, .slice a l.length c] 73)).alloc (.cells #[.bool false, .string ⟨#[]⟩, .slice none 0 0] 73)).alloc (.cells #[.bool v, .string nm, .slice none 0 0] 73) := ⟨_, rfl⟩
    have hx : Ext w W0 := by rw [hW0]; exact ((ext_alloc _ _).alloc _).alloc _
    have hz : W0.heap.size = w.heap.size + 3 := by rw [hW0]; simp
    have hxb : Own W0 w.heap.size [.bool v, .string nm, .slice a l.length c] := by rw [hW0]; exact ((own3 w _ _ _ _).ext (ext_alloc _ _)).ext (ext_alloc _ _)
    have hnb : Own W0 (w.heap.size + 1) [.bool false, .string ⟨#[]⟩, .slice none 0 0] := by
      rw [hW0]
      have := (own3 (w.alloc (.cells #[.bool v, .string nm, .slice a l.length c] 73)) (.bool false) (.string ⟨#[]⟩) (.slice none 0 0) 73).ext (ext_alloc _ (.cells #[.bool v, .string nm, .slice none 0 0] 73))
      rw [World.size_alloc] at this; exact this
    have hob : Own W0 (w.heap.size + 1 + 1) [.bool v, .string nm, .slice none 0 0] := by
      rw [hW0]
      have := own3 ((w.alloc (.cells #[.bool v, .string nm, .slice a l.length c] 73)).alloc (.cells #[.bool false, .string ⟨#[]⟩, .slice none 0 0] 73)) (.bool v) (.string nm) (.slice none 0 0) 73
      rw [World.size_alloc, World.size_alloc] at this; exact this
    rw [← hW0]
    have hzl : w.heap.size + 3 ≤ W0.heap.size := by omega
    clear hW0 hz
    obtain ⟨nb, hnbe⟩ : ∃ nb, nb = w.heap.size + 1 := ⟨_, rfl⟩
    obtain ⟨ob, hobe⟩ : ∃ ob, ob = w.heap.size + 1 + 1 := ⟨_, rfl⟩
    obtain ⟨xb, hxbe⟩ : ∃ xb, xb = w.heap.size := ⟨_, rfl⟩
    rw [← hobe] at hob
    rw [← hnbe] at hnb
    rw [← hxbe] at hxb
    rw [← hobe, ← hnbe, ← hxbe]
    have hw0 : w.heap.size ≤ xb := by omega
    have hw1 : w.heap.size ≤ nb := by omega
    have hw2 : nb < ob := by omega
    have hw3 : ob < W0.heap.size := by omega
    have hw4 : xb < nb := by omega
    clear hnbe hobe hxbe
    go_loopw [4] (fun i wr => ∃ (k : Nat) (vv : Value), k ≤ l.length ∧ i = .int .i64 k ∧ GRow (eltDat 3) 73 W0.heap.size wr vv ((l.take k).map Ex.dat) ∧ Own wr ob [.bool v, .string nm, vv] ∧ Chg [ob] W0 wr) (fun i _ => l.length - (intOf i).toNat)
    case atStart => exact ⟨0, _, Nat.zero_le _, rfl, GRow.nil, hob, Chg.refl _ _⟩
    case round =>
      obtain ⟨k, vv, hkk, rfl, hrow, ho, hch⟩ := hrel
      have hxr : Ext w wr := Chg.ext hx hch (by simp; omega)
      have HML : ((l.take k).map Ex.dat).length = k := by rw [List.length_map, List.length_take]; omega
      obtain ⟨va, vc, hv, hvc⟩ := hrow.form
      rw [HML] at hv hvc
      subst hv
      have Hml := Lib.hid HML
      clear HML hob
      have hn2 := hnb.chg hch (by simp; omega)
      have hx2b := hxb.chg hch (by simp; omega)
      obtain ⟨q0, r0⟩ := ho 0 _ rfl
      obtain ⟨q1, r1⟩ := ho 1 _ rfl
      obtain ⟨q2, r2⟩ := ho 2 _ rfl
      obtain ⟨d2, -⟩ := hx2b 2 _ rfl
      have hWr : W0.heap.size ≤ wr.heap.size := hch.size
      by_cases hlt : k < l.length
      · have hk1 : (k : Int) < l.length := by omega
        obtain ⟨b', o', a', c', rfl, hbP, g1, g2, g3, hi⟩ := (IsExs.ext hk hxr).look hlt
        have Hi := Lib.hid (fun w' (hx : Ext wr w') => HIH.out _ (List.getElem_mem hlt) P w' _ _ _ (hi.ext hx) (by have := Ex.size_le_sizes hlt; omega))
        have hown : ∀ g, (Value.slice va k vc).ownBlock = some g → g < wr.heap.size := fun g hg => (hrow.own_ge hg).2
        have hown2 : ∀ g, (Value.slice va k vc).ownBlock = some g → W0.heap.size ≤ g := fun g hg => (hrow.own_ge hg).1
        clear hi
        go_upto_region 5 with fail
        go_region_law ((first
          | (go_simp; go_at_call 48; refine (Hi.out _ (Ext.drew (Below.refl _ wr))).mono ?_; rintro e w2 ⟨⟨vv2, rfl, x0, x1, x2, rfl, hex⟩, hx2⟩; (have hx2' : Ext wr w2 := (Ext.drew (Below.refl _ wr)).trans hx2); (obtain ⟨d1, e1', rfl, rfl, rfl, -⟩ := hex.form); (have d5 := hx2'.cell q2); (have d6 := hx2'.frozen q2 r2); (have d7 := (ext_alloc w2 (.cells #[.bool l[k].var, .string l[k].name, .slice d1 l[k].args.length e1'] 73)).cell d5); (try simp only []))
          | (refine step_append_row rfl (.tmp 18) (.tmp 25) _ rfl 73 i0 _ 48 Tryz.underlying26 hi0 hz0 hz1' hz2' rfl (by decide) W0.heap.size (.slice va k vc) ((l.take k).map Ex.dat) (by rfl) wr hrow (hx2'.trans (ext_alloc _ _)) w2.heap.size (by rfl) _ _ (heap_alloc_new _ _) l[k].dat (ex_el (hex.ext (ext_alloc _ _)) fun g hg hlt => (show W0.heap.size ≤ g ∧ (Value.slice va k vc).ownBlock ≠ some g from ⟨by have : wr.drew.heap.size ≤ g := hg; simp at this; omega, fun e => by have := hown g e; have h3 : wr.drew.heap.size ≤ g := hg; simp at h3; omega⟩)) (by rw [Hml.out]; simp only [maxLen]; omega) (by rw [Hml.out]; omega) (Nat.le_trans hWr (hx2'.trans (ext_alloc _ _)).size) ?_; intro g cap w4 hrow4 hgrow hat hlt4; (have hfar : (some (⟨ob, 2, none⟩ : Addr).block) ≠ (Value.slice va k vc).ownBlock := fun e => by have := hown2 _ e.symm; simp only at this; omega); (have hlt5 : (⟨ob, 2, none⟩ : Addr).block < (w2.alloc (.cells #[.bool l[k].var, .string l[k].name, .slice d1 l[k].args.length e1'] 73)).heap.size := Nat.lt_of_lt_of_le (cell_lt d5) (ext_alloc w2 _).size); (have e5 := (hgrow.cell_far ⟨ob, 2, none⟩ hlt5 hfar).trans ((ext_alloc w2 _).cell d5)); (have e6 := (hgrow.frozen_far ⟨ob, 2, none⟩ hlt5 hfar).trans ((ext_alloc w2 _).frozen d5 d6)))))
        all_goals
          go_wp2_with fail
          go_roundw
          case rel =>
            have hx5 := hx2'.trans (ext_alloc w2 (.cells #[.bool l[k].var, .string l[k].name, .slice d1 l[k].args.length e1'] 73))
            have hset := (Chg.refl [ob] w4).setCell (p := ⟨ob, 2, none⟩) (.slice (some ⟨g, 0, none⟩) (k + 1) cap) (.inl (by simp))
            have hnot : ∀ b, b < W0.heap.size → (Value.slice va k vc).ownBlock ≠ some b := fun b hb e => by have := hown2 _ e; omega
            have hrow5 := hrow4
            rw [Hml.out] at hrow5
            refine ⟨k + 1, .slice (some ⟨g, 0, none⟩) (k + 1) cap, by omega, by go_num, ?_, ?_, (chg_append hch hrow (Nat.le_refl _) hx5 hgrow).trans (by simpa [Hml.out] using hset)⟩
            · rw [List.take_succ_eq_append_getElem hlt, List.map_append]
              exact hrow5.chg hset (by simp; omega)
            · exact (own_append (ho.ext hx5) hgrow (hnot ob hw3)).set (i := 2) (by simp) (.slice (some ⟨g, 0, none⟩) (k + 1) cap)
          case measure => simp [intOf]; omega
      · have hk1 : ¬ (k : Int) < l.length := by omega
        have hke : k = l.length := by omega
        obtain ⟨n0, s0⟩ := hn2 0 _ rfl
        obtain ⟨n1, s1⟩ := hn2 1 _ rfl
        obtain ⟨n2, s2⟩ := hn2 2 _ rfl
        obtain ⟨a1, c1, hv1, hvc1, hd⟩ := GRow.dat (by decide) hrow
        have HKE := Lib.hid hke
        have HV1 := Lib.hid hv1
        clear hke hv1
        go_wp2_with fail
        have hres := own_set3 hn2 (.bool v) (.string nm) (.slice va k vc)
        have hch2 := chg_set3 wr nb (.bool v) (.string nm) (.slice va k vc)
        have hxf : Ext w (((wr.setCell ⟨nb, 0, none⟩ (.bool v)).setCell ⟨nb, 1, none⟩ (.string nm)).setCell ⟨nb, 2, none⟩ (.slice va k vc)) := ext_set (ext_set (ext_set hxr hw1 _ _) hw1 _ _) hw1 _ _
        obtain ⟨f0, f1, f2⟩ := own_res3 hres
        generalize ((wr.setCell ⟨nb, 0, none⟩ (.bool v)).setCell ⟨nb, 1, none⟩ (.string nm)).setCell ⟨nb, 2, none⟩ (.slice va k vc) = W2 at *
        refine bodyPost_ret (v := .agg #[.bool v, .string nm, .slice va k vc]) (by simp [results, Tryz.results48, go_sem, f0, f1, f2]) rfl ⟨⟨_, rfl, _, _, _, rfl, ?_⟩, hxf⟩
        have hke := HKE.out
        subst hke
        have hv1 := HV1.out
        rw [Hml.out] at hv1
        injection hv1 with e1 _ _
        subst e1
        have hd2 := Dat.Rows.mono (Dat.Rows.chg hd hch2 (fun g hg => by simp; omega)) (Q := fun g => w.heap.size ≤ g) (fun g hg _ => by omega)
        rw [List.take_length] at hd2
        exact IsEx.mk' hn hvc (by unfold IsExs; rw [Ex.dats_map]; exact hd2)
end Go.Proofs.YtnclgkdpafhogaaGreat
namespace Go.Proofs.YtnclgkdpafhogaaGreat
open Go.ChangeShapes Go.WideShapes Go.ChangeAt Go.RowKit
theorem str_fs {P Q : Nat → Prop} {w : World} {vs : List Value} {s : ByteArray} (h : Dat.Fs P w vs [Dat.str s]) : Dat.Fs Q w vs [Dat.str s] := by
  cases vs with
  | nil => exact h
  | cons v vs => cases vs with
    | nil => exact h
    | cons u us => exact h
set_option maxHeartbeats 16000000 in
set_option maxRecDepth 100000 in
theorem lawCopyFm_any (t : Fm) : ∀ (P : Nat → Prop) (w : World) (x y z u : Value), IsFm P w x y z u t → t.size ≤ 4194304 →
    Calls Tryz.prog 19 #[.agg #[x, y, z, u]] w fun e w' => (∃ v, e = .returned v ∧ isFm' (fun g => w.heap.size ≤ g) w' v t) ∧ Ext w w' := by
  induction t using Fm.ind with
  | h op vs ts l ih =>
    intro P w x y z u ht hs
    obtain ⟨va, vc, ta, tc, a, c, rfl, rfl, rfl, rfl, ho1, hop2, hvc, htc, hc1, hkv, hkt, hk⟩ := ht.form
    simp only [Fm.op, Fm.vars, Fm.terms, Fm.args] at ho1 hop2 hvc htc hc1 hkv hkt hk ⊢
    simp only [Fm.size] at hs
    have hkl := Fm.length_le_sizes l
    have htl := Ex.length_le_sizes ts
    obtain ⟨i0, hi0, hz0, hz1', hz2'⟩ := info_parts infoEx
    obtain ⟨j0, hj0, jz0, jz1', jz2'⟩ := info_parts infoFm
    obtain ⟨s0, hs0, sz0, sz1', sz2'⟩ := info_parts infoStr
    have HIH := Lib.hid ih
    clear ih ht
    go_enter Tryz.func19, Tryz.ntmps19
    go_upto_region 2 with fail
    obtain ⟨W, hW⟩ : ∃ W, W = ((w.alloc (.cells #[.int .i64 op, .slice va vs.length vc, .slice ta ts.length tc, .slice a l.length c] 29)).alloc (.cells #[.int .i64 0, .slice none 0 0, .slice none 0 0, .slice none 0 0] 29)).alloc (.cells #[.int .i64 op, .slice none 0 0, .slice none 0 0, .slice none 0 0] 29) := ⟨_, rfl⟩
    have hx : Ext w W := by rw [hW]; exact ((ext_alloc _ _).alloc _).alloc _
    have hz : W.heap.size = w.heap.size + 3 := by rw [hW]; simp
    have hfb : Own W w.heap.size [.int .i64 op, .slice va vs.length vc, .slice ta ts.length tc, .slice a l.length c] := by rw [hW]; exact ((own4 w _ _ _ _ _).ext (ext_alloc _ _)).ext (ext_alloc _ _)
    have hnb : Own W (w.heap.size + 1) [.int .i64 0, .slice none 0 0, .slice none 0 0, .slice none 0 0] := by
      rw [hW]
      have := (own4 (w.alloc (.cells #[.int .i64 op, .slice va vs.length vc, .slice ta ts.length tc, .slice a l.length c] 29)) (.int .i64 0) (.slice none 0 0) (.slice none 0 0) (.slice none 0 0) 29).ext (ext_alloc _ (.cells #[.int .i64 op, .slice none 0 0, .slice none 0 0, .slice none 0 0] 29))
      rw [World.size_alloc] at this; exact this
    have hob : Own W (w.heap.size + 1 + 1) [.int .i64 op, .slice none 0 0, .slice none 0 0, .slice none 0 0] := by
      rw [hW]
      have := own4 ((w.alloc (.cells #[.int .i64 op, .slice va vs.length vc, .slice ta ts.length tc, .slice a l.length c] 29)).alloc (.cells #[.int .i64 0, .slice none 0 0, .slice none 0 0, .slice none 0 0] 29)) (.int .i64 op) (.slice none 0 0) (.slice none 0 0) (.slice none 0 0) 29
      rw [World.size_alloc, World.size_alloc] at this; exact this
    rw [← hW]
    clear hW
    obtain ⟨ob, hobe⟩ : ∃ ob, ob = w.heap.size + 1 + 1 := ⟨_, rfl⟩
    obtain ⟨nb, hnbe⟩ : ∃ nb, nb = w.heap.size + 1 := ⟨_, rfl⟩
    obtain ⟨fb, hfbe⟩ : ∃ fb, fb = w.heap.size := ⟨_, rfl⟩
    rw [← hobe] at hob
    rw [← hnbe] at hnb
    rw [← hfbe] at hfb
    rw [← hobe, ← hnbe, ← hfbe]
    have hw0 : w.heap.size ≤ fb := by omega
    have hw1 : fb < nb := by omega
    have hw2 : nb < ob := by omega
    have hw3 : ob < W.heap.size := by omega
    clear hobe hnbe hfbe hz
    obtain ⟨⟨b0, -⟩, ⟨b1, -⟩, ⟨b2, -⟩, ⟨b3, -⟩⟩ := hfb.cells4
    obtain ⟨⟨p0, y0⟩, ⟨p1, y1⟩, ⟨p2, y2⟩, ⟨p3, y3⟩⟩ := hob.cells4
    have hfl : fb < W.heap.size := by omega
    go_cut [] from 9 to 14 (fun wx => ∃ (va' : Option Addr) (vc' : Nat), Own wx ob [.int .i64 op, .slice va' vs.length vc', .slice none 0 0, .slice none 0 0] ∧ vs.length ≤ vc' ∧ IsStrs (fun g => W.heap.size ≤ g) wx va' vs ∧ Chg [ob] W wx)
    case first =>
      rcases Nat.eq_zero_or_pos vs.length with h0 | h0
      · have hl0 : vs = [] := List.length_eq_zero_iff.1 h0
        subst hl0
        clear h0
        simp only [List.length_nil] at b1 ⊢
        cases va with
        | none =>
          have hap : ∀ w, (Builtin.append_ #[25, 25] 25 #[.slice none 0 0, .slice none 0 vc]).run Tryz.prog w = .ok (.slice none 0 0) w := fun w => by
            simp [Builtin.append_, run_underlying Tryz.underlying25, sizeOf, typeInfo, hs0, Builtin.lenOf, Builtin.firstCells]
          go_wp2
          go_meet
          exact ⟨none, 0, hob.set (i := 1) (by simp) _, Nat.le_refl _, strs_nil, (Chg.refl [ob] W).setCell (p := ⟨ob, 1, none⟩) _ (.inl (by simp))⟩
        | some ad =>
          have hap : ∀ w, (Builtin.append_ #[25, 25] 25 #[.slice none 0 0, .slice (some ad) 0 vc]).run Tryz.prog w = .ok (.slice none 0 0) w := fun w => by
            simp [Builtin.append_, run_underlying Tryz.underlying25, sizeOf, typeInfo, hs0, Builtin.lenOf, Builtin.firstCells]
            rfl
          go_wp2
          go_meet
          exact ⟨none, 0, hob.set (i := 1) (by simp) _, Nat.le_refl _, strs_nil, (Chg.refl [ob] W).setCell (p := ⟨ob, 1, none⟩) _ (.inl (by simp))⟩
      · have hlen : (vs.map fun s => [Dat.str s]).length = vs.length := List.length_map _
        obtain ⟨b, o, rfl, hb⟩ := Dat.Rows.addr hkv (by omega)
        obtain ⟨css, k1, k2, k3, k4⟩ := Dat.Rows.cells (m := 1) hkv (fun e he => by obtain ⟨x, -, rfl⟩ := List.mem_map.1 he; rfl)
        have hfl2 : css.flatten.length = vs.length * 1 := by rw [flat_len k3, k1, hlen]
        have HC := Lib.hid (fun j u hu => (by rw [addr_add]; exact hx.cell (k4 j u hu) : W.cell? ((⟨b, o, none⟩ : Addr).add j) = some u))
        have H1 := Lib.hid (Dat.Fs.flat_one k1 k2)
        have HK := Lib.hid (And.intro k1 (And.intro k2 k3))
        have HFL := Lib.hid hfl2
        have hpos : 0 < vs.length := h0
        have HLen := Lib.hid hlen
        clear k1 k2 k3 k4 h0 hfl2 hlen
        go_wp2_with (at_builtin; refine wpList_append_lies _ rfl _ _ _ rfl W.heap.size 9 s0 _ 1 16 Tryz.underlying25 hs0 sz0 sz1' sz2' rfl (by decide) (.slice none 0 0) 0 [] rfl (World.ownsRow_nil _ _ _ _) ⟨b, o, none⟩ vs.length vc css.flatten rfl HFL.out HC.out H1.out hpos (by simp only [maxLen]; omega) (by omega) (Nat.le_refl _) _ rfl ?_; intro g cap w2 hown2 hgrow hat hlt; have hx2 : Ext W w2 := ⟨hgrow.os, hgrow.tape, hgrow.output, hgrow.size, fun k hk => hgrow.block k hk (by simp [Value.ownBlock])⟩; have hn2 := hob.ext hx2; have hnl2 := hn2.lt; (obtain ⟨n1, g1⟩ := hn2 1 _ rfl); simp only [Nat.zero_add, List.nil_append] at hown2 ⊢)
        go_meet
        obtain ⟨q1, q2, q3⟩ := HK.out
        obtain ⟨a2, c2, hv, hc2, hrows⟩ := Dat.Rows.copied (P := fun _ => False) (w := w) (by decide) q1 (fun j h h' => by have := q2 j h h'; simp only [List.getElem_map] at this ⊢; exact str_fs this) q3 hown2 HLen.out.symm hpos (hx.trans hx2)
        injection hv with e1 _ e3
        subst e1; subst e3
        exact ⟨_, _, hn2.set (i := 1) (by simp) _, hc2, Dat.Rows.mono (Dat.Rows.chg hrows ((Chg.refl [ob] w2).setCell (p := ⟨ob, 1, none⟩) _ (.inl (by simp))) (fun g hg => by simp at hg ⊢; omega)) (fun g hg _ => by simpa using hg), (Chg.of_ext hx2).setCell (p := ⟨ob, 1, none⟩) _ (.inl (by simp))⟩
    case rest =>
      generalize wc = W0 at hcut ⊢
      obtain ⟨va', vc', ho, hvc', hvs0, hchW⟩ := hcut
      have hx0 : Ext w W0 := Chg.ext hx hchW (by simp; omega)
      have hf0 := hfb.chg hchW (by simp; omega)
      have hn0 := hnb.chg hchW (by simp; omega)
      have hob0 := ho.lt
      have hWW := hchW.size
      have hvs' : IsStrs (fun g => W.heap.size ≤ g ∧ g < W0.heap.size) W0 va' vs := Dat.Rows.mono hvs0 fun g hg hlt => ⟨hg, hlt⟩
      have hwW := hx.size
      clear hfb hnb hob b0 b1 b2 b3 p0 p1 p2 p3 y0 y1 y2 y3 hfl hkv hvs0 hchW hx
      go_wp2_with fail
      go_loopw [4] (fun i wr => ∃ (k : Nat) (vv : Value), k ≤ ts.length ∧ i = .int .i64 k ∧ GRow (eltDat 3) 73 W0.heap.size wr vv ((ts.take k).map Ex.dat) ∧ Own wr ob [.int .i64 op, .slice va' vs.length vc', vv, .slice none 0 0] ∧ Chg [ob] W0 wr) (fun i _ => ts.length - (intOf i).toNat)
      case atStart => exact ⟨0, _, Nat.zero_le _, rfl, GRow.nil, ho, Chg.refl _ _⟩
      case round =>
        obtain ⟨k, vv, hkk, rfl, hrow, ho2, hch⟩ := hrel
        have hxr : Ext w wr := Chg.ext hx0 hch (by simp; omega)
        have HML : ((ts.take k).map Ex.dat).length = k := by rw [List.length_map, List.length_take]; omega
        obtain ⟨xa, xc, hv, hxc⟩ := hrow.form
        rw [HML] at hv hxc
        subst hv
        have Hml := Lib.hid HML
        clear HML ho
        obtain ⟨q2, r2⟩ := ho2 2 _ rfl
        have hn1 := hn0.chg hch (by simp; omega)
        have hf1 := hf0.chg hch (by simp; omega)
        obtain ⟨-, -, ⟨b2, -⟩, ⟨b3, -⟩⟩ := hf1.cells4
        have hWr : W0.heap.size ≤ wr.heap.size := hch.size
        by_cases hlt : k < ts.length
        · have hk1 : (k : Int) < ts.length := by omega
          obtain ⟨b', o', a', c', rfl, hbP, g1, g2, g3, hi⟩ := (IsExs.ext hkt hxr).look hlt
          have Hi := Lib.hid (fun w' (hx : Ext wr w') => lawCopyExpr_any ts[k] P w' _ _ _ (hi.ext hx) (by have := Ex.size_le_sizes hlt; omega))
          have hown : ∀ g, (Value.slice xa k xc).ownBlock = some g → g < wr.heap.size := fun g hg => (hrow.own_ge hg).2
          have hown2 : ∀ g, (Value.slice xa k xc).ownBlock = some g → W0.heap.size ≤ g := fun g hg => (hrow.own_ge hg).1
          clear hi b3
          go_upto_region 6 with fail
          go_region_law ((first
            | (go_simp; go_at_call 48; refine (Hi.out _ (Ext.drew (Below.refl _ wr))).mono ?_; rintro e w2 ⟨⟨vv2, rfl, x0, x1, x2, rfl, hex⟩, hx2⟩; (have hx2' : Ext wr w2 := (Ext.drew (Below.refl _ wr)).trans hx2); (obtain ⟨d1, e1', rfl, rfl, rfl, -⟩ := hex.form); (have d5 := hx2'.cell q2); (have d6 := hx2'.frozen q2 r2); (have d7 := (ext_alloc w2 (.cells #[.bool ts[k].var, .string ts[k].name, .slice d1 ts[k].args.length e1'] 73)).cell d5); (try simp only []))
            | (refine step_append_row rfl (.tmp 23) (.tmp 30) _ rfl 73 i0 _ 48 Tryz.underlying26 hi0 hz0 hz1' hz2' rfl (by decide) W0.heap.size (.slice xa k xc) ((ts.take k).map Ex.dat) (by rfl) wr hrow (hx2'.trans (ext_alloc _ _)) w2.heap.size (by rfl) _ _ (heap_alloc_new _ _) ts[k].dat (ex_el (hex.ext (ext_alloc _ _)) fun g hg hlt => (show W0.heap.size ≤ g ∧ (Value.slice xa k xc).ownBlock ≠ some g from ⟨by have : wr.drew.heap.size ≤ g := hg; simp at this; omega, fun e => by have := hown g e; have h3 : wr.drew.heap.size ≤ g := hg; simp at h3; omega⟩)) (by rw [Hml.out]; simp only [maxLen]; omega) (by rw [Hml.out]; omega) (Nat.le_trans hWr (hx2'.trans (ext_alloc _ _)).size) ?_; intro g cap w4 hrow4 hgrow hat hlt4; (have hfar : (some (⟨ob, 2, none⟩ : Addr).block) ≠ (Value.slice xa k xc).ownBlock := fun e => by have := hown2 _ e.symm; simp only at this; omega); (have hlt5 : (⟨ob, 2, none⟩ : Addr).block < (w2.alloc (.cells #[.bool ts[k].var, .string ts[k].name, .slice d1 ts[k].args.length e1'] 73)).heap.size := Nat.lt_of_lt_of_le (cell_lt d5) (ext_alloc w2 _).size); (have e5 := (hgrow.cell_far ⟨ob, 2, none⟩ hlt5 hfar).trans ((ext_alloc w2 _).cell d5)); (have e6 := (hgrow.frozen_far ⟨ob, 2, none⟩ hlt5 hfar).trans ((ext_alloc w2 _).frozen d5 d6)))))
          all_goals
            go_wp2_with fail
            go_roundw
            case rel =>
              have hx5 := hx2'.trans (ext_alloc w2 (.cells #[.bool ts[k].var, .string ts[k].name, .slice d1 ts[k].args.length e1'] 73))
              have hset := (Chg.refl [ob] w4).setCell (p := ⟨ob, 2, none⟩) (.slice (some ⟨g, 0, none⟩) (k + 1) cap) (.inl (by simp))
              have hnot : ∀ b, b < W0.heap.size → (Value.slice xa k xc).ownBlock ≠ some b := fun b hb e => by have := hown2 _ e; omega
              have hrow5 := hrow4
              rw [Hml.out] at hrow5
              refine ⟨k + 1, .slice (some ⟨g, 0, none⟩) (k + 1) cap, by omega, by go_num, ?_, ?_, (chg_append hch hrow (Nat.le_refl _) hx5 hgrow).trans (by simpa [Hml.out] using hset)⟩
              · rw [List.take_succ_eq_append_getElem hlt, List.map_append]
                exact hrow5.chg hset (by simp; omega)
              · exact (own_append (ho2.ext hx5) hgrow (hnot ob hob0)).set (i := 2) (by simp) (.slice (some ⟨g, 0, none⟩) (k + 1) cap)
            case measure => simp [intOf]; omega
        · have hk1 : ¬ (k : Int) < ts.length := by omega
          have hke : k = ts.length := by omega
          obtain ⟨a1, c1, hv1, hvc1, hd⟩ := GRow.dat (by decide) hrow
          rw [Hml.out] at hv1 hvc1
          injection hv1 with e1 _ e3
          subst e1; subst e3
          have hke' := hke
          subst hke
          rw [List.take_length] at hd
          have hts : IsExs (fun g => W0.heap.size ≤ g ∧ g < wr.heap.size) wr xa ts := by unfold IsExs; rw [Ex.dats_map]; exact Dat.Rows.mono hd fun g hg hlt => ⟨hg, hlt⟩
          have hvs1 : IsStrs (fun g => W.heap.size ≤ g ∧ g < W0.heap.size) wr va' vs := Dat.Rows.chg hvs' hch (fun g hg => by simp; omega)
          clear hd hrow hke' Hml hlt q2 r2 hvs' hn0 hf0
          have hob1 := ho2.lt
          obtain ⟨V1, hV1⟩ : ∃ V1, V1 = wr := ⟨_, rfl⟩
          rw [← hV1] at ho2 hch hxr hWr hts hvs1 hn1 hf1 b2 hob1 ⊢
          clear hV1 b3
          go_wp2_with fail
          clear b2
          go_loopw [5] (fun i wr => ∃ (k : Nat) (vv : Value), k ≤ l.length ∧ i = .int .i64 k ∧ GRow (eltDat 4) 29 V1.heap.size wr vv ((l.take k).map Fm.dat) ∧ Own wr ob [.int .i64 op, .slice va' vs.length vc', .slice xa ts.length xc, vv] ∧ Chg [ob] V1 wr) (fun i _ => l.length - (intOf i).toNat)
          case atStart => exact ⟨0, _, Nat.zero_le _, rfl, GRow.nil, ho2, Chg.refl _ _⟩
          case round =>
            obtain ⟨k, vv, hkk, rfl, hrow, ho3, hch3⟩ := hrel
            have hxr3 : Ext w wr := Chg.ext hxr hch3 (by simp; omega)
            have HML : ((l.take k).map Fm.dat).length = k := by rw [List.length_map, List.length_take]; omega
            obtain ⟨za, zc, hv, hzc⟩ := hrow.form
            rw [HML] at hv hzc
            subst hv
            have Hml := Lib.hid HML
            clear HML ho2
            obtain ⟨q2, r2⟩ := ho3 3 _ rfl
            have hf3 := hf1.chg hch3 (by simp; omega)
            have hn3 := hn1.chg hch3 (by simp; omega)
            obtain ⟨-, -, -, ⟨b3, -⟩⟩ := hf3.cells4
            have hWr3 : V1.heap.size ≤ wr.heap.size := hch3.size
            by_cases hlt : k < l.length
            · have hk1 : (k : Int) < l.length := by omega
              obtain ⟨b', o', a1', c1', a2', c2', a', c', rfl, hbP, g1, g2, g3, g4, hi⟩ := (IsFms.ext hk hxr3).look hlt
              have Hi := Lib.hid (fun w' (hx : Ext wr w') => HIH.out _ (List.getElem_mem hlt) P w' _ _ _ _ (hi.ext hx) (by have := Fm.size_le_sizes hlt; omega))
              have hown : ∀ g, (Value.slice za k zc).ownBlock = some g → g < wr.heap.size := fun g hg => (hrow.own_ge hg).2
              have hown2 : ∀ g, (Value.slice za k zc).ownBlock = some g → V1.heap.size ≤ g := fun g hg => (hrow.own_ge hg).1
              clear hi
              go_upto_region 10 with fail
              go_region_law ((first
                | (go_simp; go_at_call 19; refine (Hi.out _ (Ext.drew (Below.refl _ wr))).mono ?_; rintro e w2 ⟨⟨vv2, rfl, x0, x1, x2, x3, rfl, hex⟩, hx2⟩; (have hx2' : Ext wr w2 := (Ext.drew (Below.refl _ wr)).trans hx2); (obtain ⟨d1, e1', d2, e2', d3, e3', rfl, rfl, rfl, rfl, -⟩ := hex.form); (have d5 := hx2'.cell q2); (have d6 := hx2'.frozen q2 r2); (have d7 := (ext_alloc w2 (.cells #[.int .i64 l[k].op, .slice d1 l[k].vars.length e1', .slice d2 l[k].terms.length e2', .slice d3 l[k].args.length e3'] 29)).cell d5); (try simp only []))
                | (refine step_append_row rfl (.tmp 41) (.tmp 48) _ rfl 29 j0 _ 80 Tryz.underlying27 hj0 jz0 jz1' jz2' rfl (by decide) V1.heap.size (.slice za k zc) ((l.take k).map Fm.dat) (by rfl) wr hrow (hx2'.trans (ext_alloc _ _)) w2.heap.size (by rfl) _ _ (heap_alloc_new _ _) l[k].dat (fm_el (hex.ext (ext_alloc _ _)) fun g hg hlt => (show V1.heap.size ≤ g ∧ (Value.slice za k zc).ownBlock ≠ some g from ⟨by have : wr.drew.heap.size ≤ g := hg; simp at this; omega, fun e => by have := hown g e; have h3 : wr.drew.heap.size ≤ g := hg; simp at h3; omega⟩)) (by rw [Hml.out]; simp only [maxLen]; omega) (by rw [Hml.out]; omega) (Nat.le_trans hWr3 (hx2'.trans (ext_alloc _ _)).size) ?_; intro g cap w4 hrow4 hgrow hat hlt4; (have hfar : (some (⟨ob, 3, none⟩ : Addr).block) ≠ (Value.slice za k zc).ownBlock := fun e => by have := hown2 _ e.symm; simp only at this; omega); (have hlt5 : (⟨ob, 3, none⟩ : Addr).block < (w2.alloc (.cells #[.int .i64 l[k].op, .slice d1 l[k].vars.length e1', .slice d2 l[k].terms.length e2', .slice d3 l[k].args.length e3'] 29)).heap.size := Nat.lt_of_lt_of_le (cell_lt d5) (ext_alloc w2 _).size); (have e5 := (hgrow.cell_far ⟨ob, 3, none⟩ hlt5 hfar).trans ((ext_alloc w2 _).cell d5)); (have e6 := (hgrow.frozen_far ⟨ob, 3, none⟩ hlt5 hfar).trans ((ext_alloc w2 _).frozen d5 d6)))))
              all_goals
                go_wp2_with fail
                go_roundw
                case rel =>
                  have hx5 := hx2'.trans (ext_alloc w2 (.cells #[.int .i64 l[k].op, .slice d1 l[k].vars.length e1', .slice d2 l[k].terms.length e2', .slice d3 l[k].args.length e3'] 29))
                  have hset := (Chg.refl [ob] w4).setCell (p := ⟨ob, 3, none⟩) (.slice (some ⟨g, 0, none⟩) (k + 1) cap) (.inl (by simp))
                  have hnot : ∀ b, b < V1.heap.size → (Value.slice za k zc).ownBlock ≠ some b := fun b hb e => by have := hown2 _ e; omega
                  have hrow5 := hrow4
                  rw [Hml.out] at hrow5
                  refine ⟨k + 1, .slice (some ⟨g, 0, none⟩) (k + 1) cap, by omega, by go_num, ?_, ?_, (chg_append hch3 hrow (Nat.le_refl _) hx5 hgrow).trans (by simpa [Hml.out] using hset)⟩
                  · rw [List.take_succ_eq_append_getElem hlt, List.map_append]
                    exact hrow5.chg hset (by simp; omega)
                  · exact (own_append (ho3.ext hx5) hgrow (hnot ob hob1)).set (i := 3) (by simp) (.slice (some ⟨g, 0, none⟩) (k + 1) cap)
                case measure => simp [intOf]; omega
            · have hk1 : ¬ (k : Int) < l.length := by omega
              have hke : k = l.length := by omega
              obtain ⟨a1, c1, hv1, hvc1, hd⟩ := GRow.dat (by decide) hrow
              rw [Hml.out] at hv1 hvc1
              injection hv1 with e1 _ e3
              subst e1; subst e3
              subst hke
              rw [List.take_length] at hd
              have hts3 : IsExs (fun g => W0.heap.size ≤ g ∧ g < V1.heap.size) wr xa ts := Dat.Rows.chg hts hch3 (fun g hg => by simp; omega)
              have hvs3 : IsStrs (fun g => W.heap.size ≤ g ∧ g < W0.heap.size) wr va' vs := Dat.Rows.chg hvs1 hch3 (fun g hg => by simp; omega)
              clear hrow Hml hk1 hlt q2 r2 hn1 hts hvs1 hf1
              obtain ⟨⟨m0, -⟩, ⟨m1, -⟩, ⟨m2, -⟩, ⟨m3, -⟩⟩ := ho3.cells4
              obtain ⟨⟨n0, t0⟩, ⟨n1, t1⟩, ⟨n2, t2⟩, ⟨n3, t3⟩⟩ := hn3.cells4
              have hnl3 := hn3.lt
              have HD := Lib.hid (And.intro hd (And.intro hts3 hvs3))
              clear hd hts3 hvs3
              go_wp2_with fail
              obtain ⟨W2, hW2⟩ : ∃ W2, W2 = (((wr.setCell ⟨nb, 0, none⟩ (.int .i64 op)).setCell ⟨nb, 1, none⟩ (.slice va' vs.length vc')).setCell ⟨nb, 2, none⟩ (.slice xa ts.length xc)).setCell ⟨nb, 3, none⟩ (.slice za l.length zc) := ⟨_, rfl⟩
              have hch4 := chg_set4 wr nb (.int .i64 op) (.slice va' vs.length vc') (.slice xa ts.length xc) (.slice za l.length zc)
              have hn4 := own_set4 hn3 (.int .i64 op) (.slice va' vs.length vc') (.slice xa ts.length xc) (.slice za l.length zc)
              rw [← hW2] at hch4 hn4 ⊢
              clear hW2
              obtain ⟨f0, f1, f2, f3⟩ := own_res4 hn4
              have hxf := Chg.ext hxr3 hch4 (by simp; omega)
              obtain ⟨hd, hts3, hvs3⟩ := HD.out
              have hd4 : IsFms (fun g => w.heap.size ≤ g) W2 za l := by unfold IsFms; rw [Fm.dats_map]; exact Dat.Rows.mono (Dat.Rows.chg hd hch4 (fun g hg => by simp; omega)) fun g hg _ => by have := hxr.size; omega
              have ht4 : IsExs (fun g => w.heap.size ≤ g) W2 xa ts := Dat.Rows.mono (Dat.Rows.chg hts3 hch4 (fun g hg => by simp; omega)) fun g hg _ => by have := hx0.size; omega
              have hv4 : IsStrs (fun g => w.heap.size ≤ g) W2 va' vs := Dat.Rows.mono (Dat.Rows.chg hvs3 hch4 (fun g hg => by simp; omega)) fun g hg _ => by omega
              refine bodyPost_ret (v := .agg #[.int .i64 op, .slice va' vs.length vc', .slice xa ts.length xc, .slice za l.length zc]) (by simp [results, Tryz.results19, go_sem, f0, f1, f2, f3]) rfl ⟨⟨_, rfl, _, _, _, _, rfl, IsFm.mk' ho1 hop2 hvc' hxc hzc hv4 ht4 hd4⟩, hxf⟩
end Go.Proofs.YtnclgkdpafhogaaGreat
namespace Go.Proofs.YtnclgkdpafhogaaGreat
open Go.ChangeShapes Go.WideShapes Go.ChangeAt Go.RowKit
set_option maxHeartbeats 4000000 in
set_option maxRecDepth 100000 in
theorem equalFm_any {l l' : List Fm} {P Q : Nat → Prop} {w : World} (HI : ∀ k (h : k < l.length) (h' : k < l'.length) w' (_ : Ext w w') (x y z u x' y' z' u' : Value), IsFm P w' x y z u l[k] → IsFm Q w' x' y' z' u' l'[k] →
      Calls Tryz.prog 23 #[.agg #[x, y, z, u], .agg #[x', y', z', u']] w' fun e w'' => e = .returned (.bool (Fm.same l[k] l'[k])) ∧ Ext w' w'')
    {a a' : Option Addr} {c c' : Nat} (hn : l.length ≤ 1073741824) (hn' : l'.length ≤ 1073741824) (h : IsFms P w a l) (h' : IsFms Q w a' l') :
    Calls Tryz.prog 59 #[.slice a l.length c, .slice a' l'.length c', .func (.func 23) #[] #[]] w fun e w' => e = .returned (.bool (Fm.sames l l')) ∧ Ext w w' := by
  have HH := Lib.hid HI
  clear HI
  by_cases hll : l.length = l'.length
  case neg =>
    have q3 : ((l.length : Int) != (l'.length : Nat)) = true := by rw [bne_iff_ne]; omega
    have HR := Lib.hid (show Fm.sames l l' = false by
      cases hs : Fm.sames l l' with
      | false => rfl
      | true => exact absurd (by rw [(Fm.sames_iff l l').1 hs]) hll)
    clear hll
    go_enter Tryz.func59, Tryz.ntmps59
    go_wp2_with fail
    go_ret
    exact ⟨ret_bool (by rw [HR.out]), Below.refl _ _⟩
  have q3 : ((l.length : Int) != (l'.length : Nat)) = false := by rw [bne_eq_false_iff_eq]; omega
  have HLL := Lib.hid hll
  clear hll
  go_enter Tryz.func59, Tryz.ntmps59
  go_wp2_with fail
  go_loopw [17] (fun i wr => ∃ k : Nat, k ≤ l.length ∧ i = .int .i64 k ∧ Ext w wr ∧ l.take k = l'.take k) (fun i _ => l.length - (intOf i).toNat)
  case atStart => exact ⟨0, Nat.zero_le _, rfl, Below.refl _ _, rfl⟩
  case round =>
    obtain ⟨k, hkk, rfl, hxr, hm⟩ := hrel
    have HM := Lib.hid hm
    clear hm
    by_cases hlt : k < l.length
    · have hlt2 : k < l'.length := by have := HLL.out; omega
      obtain ⟨b, o, a1, c1, a2, c2, a3, c3, rfl, hb, g1, g2, g3, g4, hi⟩ := (IsFms.ext h hxr).look hlt
      obtain ⟨bb, oo, d1, e1, d2, e2, d3, e3, rfl, hbb, j1, j2, j3, j4, hi'⟩ := (IsFms.ext h' hxr).look hlt2
      have hlt' : (k : Int) < l.length := by omega
      have hlt2' : (k : Int) < l'.length := by omega
      have HE := Lib.hid (fun w' (hx : Ext wr w') => HH.out k hlt hlt2 w' (hxr.trans hx) _ _ _ _ _ _ _ _ (hi.ext hx) (hi'.ext hx))
      have HST := Lib.hid (show l.take (k + 1) = l.take k ++ [l[k]] from List.take_succ_eq_append_getElem hlt)
      have HST' := Lib.hid (show l'.take (k + 1) = l'.take k ++ [l'[k]] from List.take_succ_eq_append_getElem hlt2)
      obtain ⟨V, hV⟩ : ∃ V, V = (wr.alloc (.cells #[.int .i64 l[k].op, .slice a1 l[k].vars.length c1, .slice a2 l[k].terms.length c2, .slice a3 l[k].args.length c3] 29)).alloc (.cells #[.int .i64 l'[k].op, .slice d1 l'[k].vars.length e1, .slice d2 l'[k].terms.length e2, .slice d3 l'[k].args.length e3] 29) := ⟨_, rfl⟩
      have hxV : Ext wr V := by rw [hV]; exact (ext_alloc _ _).alloc _
      have hxA := ext_alloc wr (.cells #[.int .i64 l[k].op, .slice a1 l[k].vars.length c1, .slice a2 l[k].terms.length c2, .slice a3 l[k].args.length c3] 29)
      have i1 := hxA.cell j1; have i2 := hxA.cell j2; have i3 := hxA.cell j3; have i4 := hxA.cell j4
      cases hs : Fm.same l[k] l'[k] with
      | true =>
        rw [hs] at HE
        have HEQ := Lib.hid ((Fm.same_iff _ _).1 hs)
        clear hs
        go_wp2_with (rw [← hV]; clear hV; go_at_call 23; refine (HE.out _ hxV).mono ?_; rintro e w1 ⟨rfl, hx1⟩)
        go_roundw
        case rel => exact ⟨k + 1, by omega, by go_num, hxr.trans (hxV.trans hx1), by rw [HST.out, HST'.out, HM.out, HEQ.out]⟩
        case measure => simp [intOf]; omega
      | false =>
        rw [hs] at HE
        have HR := Lib.hid (show Fm.sames l l' = false by
          cases hs2 : Fm.sames l l' with
          | false => rfl
          | true =>
            have := (Fm.sames_iff l l').1 hs2
            subst this
            rw [(Fm.same_iff _ _).2 rfl] at hs
            cases hs)
        clear hs
        go_wp2_with (rw [← hV]; clear hV; go_at_call 23; refine (HE.out _ hxV).mono ?_; rintro e w1 ⟨rfl, hx1⟩)
        go_ret
        exact ⟨ret_bool (by rw [HR.out]), hxr.trans (hxV.trans hx1)⟩
    · have hlt' : ¬ (k : Int) < l.length := by omega
      have hke : k = l.length := by omega
      have HR := Lib.hid (show Fm.sames l l' = true by
        have h1 := HM.out
        rw [hke, List.take_length, HLL.out, List.take_length] at h1
        exact (Fm.sames_iff _ _).2 h1)
      clear hke
      go_wp2_with fail
      go_ret
      exact ⟨ret_bool (by rw [HR.out]), hxr⟩

theorem drewN_ext (w : World) (q : Nat) : Ext w (w.drewN q) := (Below.refl w.heap.size w).trans ⟨rfl, rfl, rfl, Nat.le_refl _, fun _ _ => rfl⟩
theorem equalStrs_any {l l' : List ByteArray} {P Q : Nat → Prop} {w : World} {a a' : Option Addr} {c c' : Nat} (hn : l.length ≤ 1073741824) (hn' : l'.length ≤ 1073741824) (h : IsStrs P w a l) (h' : IsStrs Q w a' l') :
    Calls Tryz.prog 56 #[.slice a l.length c, .slice a' l'.length c'] w fun e w' => e = .returned (.bool (decide (l = l'))) ∧ Ext w w' := by
  by_cases h0 : l.length = l'.length
  · by_cases hz : l.length = 0
    · have hl : l = [] := List.eq_nil_of_length_eq_zero hz
      have hl' : l' = [] := List.eq_nil_of_length_eq_zero (by omega)
      subst hl; subst hl'
      refine (Tryz.slices_Equal_string_empty a a' c 0 c' w (by omega)).mono ?_
      rintro e w' ⟨rfl, rfl⟩
      exact ⟨rfl, Below.refl _ _⟩
    · obtain ⟨b, o, rfl, -⟩ := h.look (i := 0) (by omega)
      obtain ⟨b', o', rfl, -⟩ := h'.look (i := 0) (by omega)
      refine (Tryz.slices_Equal_string b o l.length c b' o' l'.length c' l l' w (Nat.le_refl _) (Nat.le_refl _) (by omega) (by omega) (fun j hj => ?_) (fun j hj => ?_)).mono ?_
      · obtain ⟨b1, o1, he, -, hc, -⟩ := h.look hj
        injection he with he; injection he with e1 e2 _
        subst e1; subst e2
        rw [List.getD_eq_getElem?_getD, List.getElem?_eq_getElem hj]; exact hc
      · obtain ⟨b1, o1, he, -, hc, -⟩ := h'.look hj
        injection he with he; injection he with e1 e2 _
        subst e1; subst e2
        rw [List.getD_eq_getElem?_getD, List.getElem?_eq_getElem hj]; exact hc
      · rintro e w' ⟨rfl, q, rfl⟩
        rw [List.take_length, List.take_length]
        exact ⟨rfl, drewN_ext w q⟩
  · refine (Tryz.slices_Equal_string_lens a a' l.length c l'.length c' w h0).mono ?_
    rintro e w' ⟨rfl, rfl⟩
    exact ⟨ret_bool (by rw [decide_eq_false (fun h => h0 (by rw [h]))]), Below.refl _ _⟩
set_option maxHeartbeats 4000000 in
set_option maxRecDepth 100000 in
theorem same_any (f : Fm) : ∀ (g : Fm) (P Q : Nat → Prop) (w : World) (x y z u x' y' z' u' : Value), IsFm P w x y z u f → IsFm Q w x' y' z' u' g → f.size ≤ 4194304 → g.size ≤ 4194304 →
    Calls Tryz.prog 23 #[.agg #[x, y, z, u], .agg #[x', y', z', u']] w fun e w' => e = .returned (.bool (Fm.same f g)) ∧ Ext w w' := by
  induction f using Fm.ind with
  | h op v t l ih =>
    intro g P Q w x y z u x' y' z' u' hf hg hs hs'
    obtain ⟨op', v', t', l'⟩ := g
    obtain ⟨va, vc, ta, tc, a, c, rfl, rfl, rfl, rfl, -, -, -, -, -, hvs, hts, hls⟩ := hf.form
    obtain ⟨va', vc', ta', tc', a', c', rfl, rfl, rfl, rfl, -, -, -, -, -, hvs', hts', hls'⟩ := hg.form
    simp only [Fm.op, Fm.vars, Fm.terms, Fm.args] at hvs hts hls hvs' hts' hls' ⊢
    simp only [Fm.size] at hs hs'
    have h1 := Ex.length_le_sizes t
    have h2 := Ex.length_le_sizes t'
    have h3 := Fm.length_le_sizes l
    have h4 := Fm.length_le_sizes l'
    have HV := Lib.hid (fun w' (hx : Ext w w') => equalStrs_any (c := vc) (c' := vc') (by omega) (by omega) (hvs.ext hx) (hvs'.ext hx))
    have HT := Lib.hid (fun w' (hx : Ext w w') => equalEx_any (c := tc) (c' := tc') (fun k h h' w'' hx' x y z x' y' z' hi hi' => sameExpr_any _ _ P Q w'' x y z x' y' z' hi hi' (by have := Ex.size_le_sizes h; omega) (by have := Ex.size_le_sizes h'; omega)) (by omega) (by omega) (hts.ext hx) (hts'.ext hx))
    have HL := Lib.hid (fun w' (hx : Ext w w') => equalFm_any (c := c) (c' := c') (fun k h h' w'' hx' x y z u x' y' z' u' hi hi' => ih _ (List.getElem_mem h) l'[k] P Q w'' x y z u x' y' z' u' hi hi' (by have := Fm.size_le_sizes h; omega) (by have := Fm.size_le_sizes h'; omega)) (by omega) (by omega) (hls.ext hx) (hls'.ext hx))
    clear ih hf hg hvs hvs' hts hts' hls hls' h1 h2 h3 h4
    have HR := Lib.hid (show Fm.same (.mk op v t l) (.mk op' v' t' l') = (decide (op = op') && decide (v = v') && Ex.sames t t' && Fm.sames l l') by simp only [Fm.same])
    generalize decide (v = v') = dv at HV HR
    generalize Ex.sames t t' = dt at HT HR
    generalize Fm.sames l l' = dl at HL HR
    have hx0 : Ext w ((w.alloc (.cells #[.int .i64 op, .slice va v.length vc, .slice ta t.length tc, .slice a l.length c] 29)).alloc (.cells #[.int .i64 op', .slice va' v'.length vc', .slice ta' t'.length tc', .slice a' l'.length c'] 29)) := (ext_alloc _ _).alloc _
    obtain ⟨W, hW⟩ : ∃ W, W = (w.alloc (.cells #[.int .i64 op, .slice va v.length vc, .slice ta t.length tc, .slice a l.length c] 29)).alloc (.cells #[.int .i64 op', .slice va' v'.length vc', .slice ta' t'.length tc', .slice a' l'.length c'] 29) := ⟨_, rfl⟩
    obtain ⟨⟨k0, -⟩, ⟨k1, -⟩, ⟨k2, -⟩, ⟨k3, -⟩⟩ := Own.cells4 (Own.ext (own4 w (.int .i64 op) (.slice va v.length vc) (.slice ta t.length tc) (.slice a l.length c) 29) (ext_alloc _ (.cells #[.int .i64 op', .slice va' v'.length vc', .slice ta' t'.length tc', .slice a' l'.length c'] 29)))
    obtain ⟨⟨m0, -⟩, ⟨m1, -⟩, ⟨m2, -⟩, ⟨m3, -⟩⟩ := (own4 (w.alloc (.cells #[.int .i64 op, .slice va v.length vc, .slice ta t.length tc, .slice a l.length c] 29)) (.int .i64 op') (.slice va' v'.length vc') (.slice ta' t'.length tc') (.slice a' l'.length c') 29).cells4
    rw [World.size_alloc] at m0 m1 m2 m3
    rw [← hW] at hx0 k0 k1 k2 k3 m0 m1 m2 m3
    by_cases ho : op = op'
    case neg =>
      have hof : (op == op') = false := by rw [beq_eq_false_iff_ne]; exact ho
      rw [decide_eq_false ho] at HR
      clear ho
      go_enter Tryz.func23, Tryz.ntmps23
      go_upto_region 1 with fail
      rw [← hW]
      clear hW
      go_wp2_with fail
      go_ret
      exact ⟨ret_bool (by rw [HR.out]; rfl), hx0⟩
    have hof : (op == op') = true := by rw [beq_iff_eq]; exact ho
    rw [decide_eq_true ho] at HR
    clear ho
    cases dv with
    | false =>
      go_enter Tryz.func23, Tryz.ntmps23
      go_upto_region 1 with fail
      rw [← hW]
      clear hW
      go_wp2_with (go_at_call 56; refine (HV.out _ hx0).mono ?_; rintro e w1 ⟨rfl, hx1⟩)
      go_ret
      exact ⟨ret_bool (by rw [HR.out]; rfl), hx0.trans hx1⟩
    | true =>
    cases dt with
    | false =>
      go_enter Tryz.func23, Tryz.ntmps23
      go_upto_region 1 with fail
      rw [← hW]
      clear hW
      go_wp2_with (first
        | (go_at_call 56; refine (HV.out _ hx0).mono ?_; rintro e w1 ⟨rfl, hx1⟩; replace k2 := hx1.cell k2; replace m2 := hx1.cell m2)
        | (go_at_call 57; refine (HT.out _ (hx0.trans hx1)).mono ?_; rintro e w2 ⟨rfl, hx2⟩))
      go_ret
      exact ⟨ret_bool (by rw [HR.out]; rfl), (hx0.trans hx1).trans hx2⟩
    | true =>
      cases dl <;>
      · go_enter Tryz.func23, Tryz.ntmps23
        go_upto_region 1 with fail
        rw [← hW]
        clear hW
        go_wp2_with (first
          | (go_at_call 56; refine (HV.out _ hx0).mono ?_; rintro e w1 ⟨rfl, hx1⟩; replace k2 := hx1.cell k2; replace m2 := hx1.cell m2; replace k3 := hx1.cell k3; replace m3 := hx1.cell m3)
          | (go_at_call 57; refine (HT.out _ (hx0.trans hx1)).mono ?_; rintro e w2 ⟨rfl, hx2⟩; replace k3 := hx2.cell k3; replace m3 := hx2.cell m3)
          | (go_at_call 59; refine (HL.out _ ((hx0.trans hx1).trans hx2)).mono ?_; rintro e w3 ⟨rfl, hx3⟩))
        go_ret
        exact ⟨ret_bool (by rw [HR.out]; rfl), ((hx0.trans hx1).trans hx2).trans hx3⟩
end Go.Proofs.YtnclgkdpafhogaaGreat
