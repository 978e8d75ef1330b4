/- formula.Cursor.formula where a sign between two units makes a negation, from what unit does. Condition: a row of at most 2^30 tokens, not empty.
formula.Cursor.atomic where no constant stands, at a dollar. Condition: a row of at most 2^30 tokens, not empty.
formula.Cursor.atomic where no constant stands. Condition: a row of at most 2^30 tokens, not empty.
formula.Cursor.formula, unit. Condition: a row of at most 2^30 tokens, not empty.
formula.Caught, Read$1: a reading is caught where it panics. Condition: a row of at most 2^30 tokens, not empty. -/
import Derived.Test.YtnclgkdpafhogaaQ13
import Derived.Deep.LoopGhost
import Derived.Defers
import Derived.Recover
import Derived.Laws.Pointers
namespace Go.Proofs.Ytnclgkdpafhogaa
open Go.ChangeShapes Go.WideShapes Go.ChangeAt Go.RowKit
set_option maxHeartbeats 16000000 in
set_option maxRecDepth 100000 in
theorem form_nor {cb : Nat} {l : List Tok} (hl : l.length ≤ 1073741824) {n : Nat} (hU : UnitOK cb l n) {ks : List Tok} (hkn : ks.length ≤ n) {w : World} (h : Cur cb l w ks) {f : Fm} {t : Tok} {r : List Tok} (hu : rUnit ks = .ok f (t :: r)) (h6 : t.kind = 6) (hs : t.text = sNor) :
    Calls Try.prog 41 #[.pointer (some ⟨cb, 0, none⟩)] w (RdPost isFm' cb l w (formStep rUnit ks)) := by
  have HE := Lib.hid (show formStep rUnit ks = (rUnit r).map (fun g => fNot (fOf 7 [f, g])) by
    unfold formStep; rw [hu, Rd.bind_ok, behindStep_cons, if_neg (by simpa using h6), if_neg (by rw [hs]; decide), if_neg (by rw [hs]; decide), hs]; rfl)
  have hlt := h.lt
  have hpk : peekT (t :: r) = t := rfl
  obtain ⟨kd, tx, ta⟩ := t
  simp only at h6 hs
  have q0 : (kd != 6) = false := by rw [bne_eq_false_iff_eq]; exact h6
  have q1 : (tx.toList == [38]) = false := by subst hs; decide +kernel
  have q2 : (tx.toList == [124]) = false := by subst hs; decide +kernel
  have q3 : (tx.toList == [61, 62]) = false := by subst hs; decide +kernel
  have q4 : (tx.toList == [60, 61]) = false := by subst hs; decide +kernel
  have q5 : (tx.toList == [60, 61, 62]) = false := by subst hs; decide +kernel
  have q6 : (tx.toList == [60, 126, 62]) = false := by subst hs; decide +kernel
  have q7 : (tx.toList == [126, 124]) = true := by subst hs; decide +kernel
  have q8 : (tx.toList == [126, 38]) = false := by subst hs; decide +kernel
  clear hs h6
  obtain ⟨W, hW⟩ : ∃ W, W = w.alloc (.cells #[.int .i64 0, .slice none 0 0, .slice none 0 0, .slice none 0 0] 27) := ⟨_, rfl⟩
  have hx : Ext w W := by rw [hW]; exact ext_alloc _ _
  have hnW : Own W w.heap.size [.int .i64 0, .slice none 0 0, .slice none 0 0, .slice none 0 0] := by rw [hW]; exact own4 w _ _ _ _ _
  have HU := Lib.hid (hU ks hkn W (h.ext hx))
  have HU2 := Lib.hid hU
  unfold RdPost at HU
  rw [hu] at HU
  have hul := rUnit_lt hu
  clear hu h hU
  go_enter Try.func41, Try.ntmps41
  go_upto_region 2 with (rw [← hW]; clear hW; go_at_call 63; refine (HU.out).mono ?_; rintro e w1 ⟨hx1, hc1, v, rfl, xa, xb, xc, xd, rfl, hf⟩; (have hf' := hf); (obtain ⟨b1, c1, b2, c2, b3, c3, rfl, rfl, rfl, rfl, -⟩ := hf'.form); clear hf')
  have HP := Lib.hid (fun w' (hx : Ext w1 w') => peek_any hl (hc1.ext hx))
  rw [hpk] at HP
  have hq1 : Chg [cb] w w1 := Chg.trans (Chg.of_ext hx) hx1
  have hnc : w.heap.size ≠ cb := by omega
  have hn1 := hnW.chg hx1 (by simpa using hnc)
  have hnl := hnW.lt
  have hnl1 := hx1.size
  go_upto_region 3 with (go_at_call 53; refine (HP.out _ (ext_alloc _ _)).mono ?_; rintro e w2 ⟨rfl, hx2⟩; simp only [Tok.vals])
  obtain ⟨V, hV⟩ : ∃ V, V = w2.alloc (.cells #[.int .i64 kd, .string tx, .int .i64 ta] 63) := ⟨_, rfl⟩
  have hx12 : Ext w1 V := by rw [hV]; exact ((ext_alloc _ _).trans hx2).alloc _
  have hfV : Own V w1.heap.size [.int .i64 f.op, .slice b1 f.vars.length c1, .slice b2 f.terms.length c2, .slice b3 f.args.length c3] := by rw [hV]; exact ((own4 w1 _ _ _ _ _).ext hx2).ext (ext_alloc _ _)
  have htV : Own V w2.heap.size [.int .i64 kd, .string tx, .int .i64 ta] := by rw [hV]; exact own3 w2 _ _ _ _
  have hqV := hq1.trans (Chg.of_ext hx12)
  have hcV := hc1.ext hx12
  have hnV := hn1.ext hx12
  have hfm : IsFm (fun g => w.heap.size < g) V _ _ _ _ f := (Dat.Fs.mono hf fun g hg _ => (show w.heap.size < g by have : W.heap.size ≤ g := hg; omega)).ext hx12
  have hfn : w.heap.size < w1.heap.size := by omega
  have htn : w1.heap.size < w2.heap.size := by have := ((ext_alloc w1 (.cells #[.int .i64 f.op, .slice b1 f.vars.length c1, .slice b2 f.terms.length c2, .slice b3 f.args.length c3] 27)).trans hx2).size; have := (own4 w1 (.int .i64 f.op) (.slice b1 f.vars.length c1) (.slice b2 f.terms.length c2) (.slice b3 f.args.length c3) 27).lt; have := hx2.size; omega
  rw [← hV]
  clear hV hx hx1 hx2 hx12 hnW HU HP hq1 hn1 hnl hnl1 hc1 hf
  generalize w1.heap.size = fb at *
  generalize w2.heap.size = tb at *
  have hfc : fb ≠ cb := by omega
  have htc : tb ≠ cb := by omega
  have hfne : fb ≠ w.heap.size := by omega
  clear w1 w2
  obtain ⟨⟨m0, -⟩, ⟨m1, -⟩, ⟨m2, -⟩, ⟨m3, -⟩⟩ := hfV.cells4
  obtain ⟨t0, -⟩ := htV 0 _ rfl
  obtain ⟨t1, -⟩ := htV 1 _ rfl
  obtain ⟨⟨n0, g0⟩, ⟨n1, g1⟩, ⟨n2, g2⟩, ⟨n3, g3⟩⟩ := hnV.cells4
  have hnl := hnV.lt
  obtain ⟨hsuf, ca, cc, hown, -, -⟩ := (show Cur cb l V (⟨kd, tx, ta⟩ :: r) from hcV)
  obtain ⟨p, hp, -, hp1, hp2, hp3⟩ := suf_at hsuf
  rw [hp2] at hown
  obtain ⟨z1, y1⟩ := hown 1 _ rfl
  have hsM : Chg [cb] V (V.setCell ⟨cb, 1, none⟩ (.int .i64 ((p : Int) + 1))) := (Chg.refl [cb] V).setCell _ (.inl (by simp))
  have hcM := hcV.move ((List.suffix_cons _ _).trans hsuf) (z := (p : Int) + 1) (by omega)
  clear hp2 hp3 hown hsuf
  go_upto_region 22 with fail
  have hqM := hqV.trans hsM
  have hfM := hfV.chg hsM (by simpa using hfc)
  have htM := htV.chg hsM (by simpa using htc)
  have hnM := hnV.chg hsM (by simpa using hnc)
  have hfmM : IsFm (fun g => w.heap.size < g) (V.setCell ⟨cb, 1, none⟩ (.int .i64 ((p : Int) + 1))) _ _ _ _ f := Dat.Fs.chg hfm hsM (fun g hg => by simp; omega)
  clear hqV hfV htV hnV hfm hsM hcV m0 m1 m2 m3 t0 t1 n0 n1 n2 n3 g0 g1 g2 g3 hnl z1 y1
  generalize V.setCell ⟨cb, 1, none⟩ (.int .i64 ((p : Int) + 1)) = U at *
  have HUU := Lib.hid (HU2.out r (by simp only [List.length_cons] at hul; omega) U hcM)
  unfold RdPost at HUU
  clear HU2
  cases hk : rUnit r with
  | bad r2 =>
    rw [hk] at HUU HE
    clear hk
    go_wp2_with (go_at_call 63; refine (HUU.out).mono ?_; rintro e w3 ⟨hx3, rfl⟩)
    exact ⟨rfl, hqM.trans hx3, (by rw [HE.out]; rfl)⟩
  | ok g r2 =>
  rw [hk] at HUU HE
  clear hk
  go_upto_region 23 with (go_at_call 63; refine (HUU.out).mono ?_; rintro e w3 ⟨hx3, hc3, v, rfl, xa, xb, xc, xd, rfl, hg⟩; (have hg' := hg); (obtain ⟨d1, e1, d2, e2, d3, e3, rfl, rfl, rfl, rfl, -⟩ := hg'.form); clear hg')
  obtain ⟨Y, hY⟩ : ∃ Y, Y = w3.alloc (.cells #[.int .i64 g.op, .slice d1 g.vars.length e1, .slice d2 g.terms.length e2, .slice d3 g.args.length e3] 27) := ⟨_, rfl⟩
  have hxY : Ext w3 Y := by rw [hY]; exact ext_alloc _ _
  have hgY : Own Y w3.heap.size [.int .i64 g.op, .slice d1 g.vars.length e1, .slice d2 g.terms.length e2, .slice d3 g.args.length e3] := by rw [hY]; exact own4 w3 _ _ _ _ _
  have hfY := (hfM.chg hx3 (by simpa using hfc)).ext hxY
  have htY := (htM.chg hx3 (by simpa using htc)).ext hxY
  have hnY := (hnM.chg hx3 (by simpa using hnc)).ext hxY
  have hqY := (hqM.trans hx3).trans (Chg.of_ext hxY)
  have hcY := hc3.ext hxY
  have hnU := hnM.lt
  have hF := (Dat.Fs.chg hfmM hx3 (fun g hg => by simp; omega)).ext hxY
  have hG := Dat.Fs.ext (Dat.Fs.mono hg (Q := fun g => w.heap.size < g) fun g hg _ => (by omega)) hxY
  rw [← hY]
  clear hY hxY hx3 hc3 hg hfM htM hnM hqM hcM hfmM HUU
  generalize w3.heap.size = gb at *
  obtain ⟨⟨m0, -⟩, ⟨m1, -⟩, ⟨m2, -⟩, ⟨m3, -⟩⟩ := hfY.cells4
  obtain ⟨⟨s0, -⟩, ⟨s1, -⟩, ⟨s2, -⟩, ⟨s3, -⟩⟩ := hgY.cells4
  obtain ⟨t1, -⟩ := htY 1 _ rfl
  have HO := Lib.hid (fun op a n c w => of_any op a n c w)
  go_wp2_with (first | (go_at_call 65; have hx4c := hx4; refine (HO.out _ _ _ _ _).mono ?_; rintro e w5 ⟨rfl, hx5'⟩; have hx5 := (hx4.trans (ext_alloc _ _)).trans hx5'; (obtain ⟨⟨n0, g0⟩, ⟨n1, g1⟩, ⟨n2, g2⟩, ⟨n3, g3⟩⟩ := (hnY.ext hx5).cells4); have hnl := (hnY.ext hx5).lt) | (go_at_call 65; refine (HO.out _ _ _ _ _).mono ?_; rintro e w4 ⟨rfl, hx4'⟩; have hx4 := (ext_alloc _ _).trans hx4'; skip))
  refine fin4_ret (hqY.trans (Chg.of_ext hx5)) hlt (hcY.ext hx5) (hnY.ext hx5) (fun W2 r0 r1 r2 r3 => by simp [results, Try.results41, go_sem, r0, r1, r2, r3]) rfl fun W2 k1 k2 k3 => ⟨k2, ?_⟩
  rw [HE.out]
  refine ⟨k1, _, rfl, _, _, _, _, rfl, ?_⟩
  have h1 := fm_args (op := 7) (l := [f, g]) (c := 2) (by decide) (by decide) (Nat.le_refl _) (IsFms.ext (fms_two 27 hF hG (show w.heap.size < Y.heap.size from hnY.lt)) hx4')
  have h2 := fm_args (op := 5) (l := [fOf 7 [f, g]]) (c := 1) (by decide) (by decide) (Nat.le_refl _) (IsFms.ext (fms_one 27 h1 (show w.heap.size < w4.heap.size from (hnY.ext hx4).lt)) hx5')
  exact Dat.Fs.mono (Dat.Fs.chg h2 k3 (fun g hg => by simp; omega)) fun g hg _ => (show w.heap.size ≤ g by omega)
set_option maxHeartbeats 16000000 in
set_option maxRecDepth 100000 in
theorem form_nand {cb : Nat} {l : List Tok} (hl : l.length ≤ 1073741824) {n : Nat} (hU : UnitOK cb l n) {ks : List Tok} (hkn : ks.length ≤ n) {w : World} (h : Cur cb l w ks) {f : Fm} {t : Tok} {r : List Tok} (hu : rUnit ks = .ok f (t :: r)) (h6 : t.kind = 6) (hs : t.text = sNand) :
    Calls Try.prog 41 #[.pointer (some ⟨cb, 0, none⟩)] w (RdPost isFm' cb l w (formStep rUnit ks)) := by
  have HE := Lib.hid (show formStep rUnit ks = (rUnit r).map (fun g => fNot (fOf 6 [f, g])) by
    unfold formStep; rw [hu, Rd.bind_ok, behindStep_cons, if_neg (by simpa using h6), if_neg (by rw [hs]; decide), if_neg (by rw [hs]; decide), hs]; rfl)
  have hlt := h.lt
  have hpk : peekT (t :: r) = t := rfl
  obtain ⟨kd, tx, ta⟩ := t
  simp only at h6 hs
  have q0 : (kd != 6) = false := by rw [bne_eq_false_iff_eq]; exact h6
  have q1 : (tx.toList == [38]) = false := by subst hs; decide +kernel
  have q2 : (tx.toList == [124]) = false := by subst hs; decide +kernel
  have q3 : (tx.toList == [61, 62]) = false := by subst hs; decide +kernel
  have q4 : (tx.toList == [60, 61]) = false := by subst hs; decide +kernel
  have q5 : (tx.toList == [60, 61, 62]) = false := by subst hs; decide +kernel
  have q6 : (tx.toList == [60, 126, 62]) = false := by subst hs; decide +kernel
  have q7 : (tx.toList == [126, 124]) = false := by subst hs; decide +kernel
  have q8 : (tx.toList == [126, 38]) = true := by subst hs; decide +kernel
  clear hs h6
  obtain ⟨W, hW⟩ : ∃ W, W = w.alloc (.cells #[.int .i64 0, .slice none 0 0, .slice none 0 0, .slice none 0 0] 27) := ⟨_, rfl⟩
  have hx : Ext w W := by rw [hW]; exact ext_alloc _ _
  have hnW : Own W w.heap.size [.int .i64 0, .slice none 0 0, .slice none 0 0, .slice none 0 0] := by rw [hW]; exact own4 w _ _ _ _ _
  have HU := Lib.hid (hU ks hkn W (h.ext hx))
  have HU2 := Lib.hid hU
  unfold RdPost at HU
  rw [hu] at HU
  have hul := rUnit_lt hu
  clear hu h hU
  go_enter Try.func41, Try.ntmps41
  go_upto_region 2 with (rw [← hW]; clear hW; go_at_call 63; refine (HU.out).mono ?_; rintro e w1 ⟨hx1, hc1, v, rfl, xa, xb, xc, xd, rfl, hf⟩; (have hf' := hf); (obtain ⟨b1, c1, b2, c2, b3, c3, rfl, rfl, rfl, rfl, -⟩ := hf'.form); clear hf')
  have HP := Lib.hid (fun w' (hx : Ext w1 w') => peek_any hl (hc1.ext hx))
  rw [hpk] at HP
  have hq1 : Chg [cb] w w1 := Chg.trans (Chg.of_ext hx) hx1
  have hnc : w.heap.size ≠ cb := by omega
  have hn1 := hnW.chg hx1 (by simpa using hnc)
  have hnl := hnW.lt
  have hnl1 := hx1.size
  go_upto_region 3 with (go_at_call 53; refine (HP.out _ (ext_alloc _ _)).mono ?_; rintro e w2 ⟨rfl, hx2⟩; simp only [Tok.vals])
  obtain ⟨V, hV⟩ : ∃ V, V = w2.alloc (.cells #[.int .i64 kd, .string tx, .int .i64 ta] 63) := ⟨_, rfl⟩
  have hx12 : Ext w1 V := by rw [hV]; exact ((ext_alloc _ _).trans hx2).alloc _
  have hfV : Own V w1.heap.size [.int .i64 f.op, .slice b1 f.vars.length c1, .slice b2 f.terms.length c2, .slice b3 f.args.length c3] := by rw [hV]; exact ((own4 w1 _ _ _ _ _).ext hx2).ext (ext_alloc _ _)
  have htV : Own V w2.heap.size [.int .i64 kd, .string tx, .int .i64 ta] := by rw [hV]; exact own3 w2 _ _ _ _
  have hqV := hq1.trans (Chg.of_ext hx12)
  have hcV := hc1.ext hx12
  have hnV := hn1.ext hx12
  have hfm : IsFm (fun g => w.heap.size < g) V _ _ _ _ f := (Dat.Fs.mono hf fun g hg _ => (show w.heap.size < g by have : W.heap.size ≤ g := hg; omega)).ext hx12
  have hfn : w.heap.size < w1.heap.size := by omega
  have htn : w1.heap.size < w2.heap.size := by have := ((ext_alloc w1 (.cells #[.int .i64 f.op, .slice b1 f.vars.length c1, .slice b2 f.terms.length c2, .slice b3 f.args.length c3] 27)).trans hx2).size; have := (own4 w1 (.int .i64 f.op) (.slice b1 f.vars.length c1) (.slice b2 f.terms.length c2) (.slice b3 f.args.length c3) 27).lt; have := hx2.size; omega
  rw [← hV]
  clear hV hx hx1 hx2 hx12 hnW HU HP hq1 hn1 hnl hnl1 hc1 hf
  generalize w1.heap.size = fb at *
  generalize w2.heap.size = tb at *
  have hfc : fb ≠ cb := by omega
  have htc : tb ≠ cb := by omega
  have hfne : fb ≠ w.heap.size := by omega
  clear w1 w2
  obtain ⟨⟨m0, -⟩, ⟨m1, -⟩, ⟨m2, -⟩, ⟨m3, -⟩⟩ := hfV.cells4
  obtain ⟨t0, -⟩ := htV 0 _ rfl
  obtain ⟨t1, -⟩ := htV 1 _ rfl
  obtain ⟨⟨n0, g0⟩, ⟨n1, g1⟩, ⟨n2, g2⟩, ⟨n3, g3⟩⟩ := hnV.cells4
  have hnl := hnV.lt
  obtain ⟨hsuf, ca, cc, hown, -, -⟩ := (show Cur cb l V (⟨kd, tx, ta⟩ :: r) from hcV)
  obtain ⟨p, hp, -, hp1, hp2, hp3⟩ := suf_at hsuf
  rw [hp2] at hown
  obtain ⟨z1, y1⟩ := hown 1 _ rfl
  have hsM : Chg [cb] V (V.setCell ⟨cb, 1, none⟩ (.int .i64 ((p : Int) + 1))) := (Chg.refl [cb] V).setCell _ (.inl (by simp))
  have hcM := hcV.move ((List.suffix_cons _ _).trans hsuf) (z := (p : Int) + 1) (by omega)
  clear hp2 hp3 hown hsuf
  go_upto_region 22 with fail
  have hqM := hqV.trans hsM
  have hfM := hfV.chg hsM (by simpa using hfc)
  have htM := htV.chg hsM (by simpa using htc)
  have hnM := hnV.chg hsM (by simpa using hnc)
  have hfmM : IsFm (fun g => w.heap.size < g) (V.setCell ⟨cb, 1, none⟩ (.int .i64 ((p : Int) + 1))) _ _ _ _ f := Dat.Fs.chg hfm hsM (fun g hg => by simp; omega)
  clear hqV hfV htV hnV hfm hsM hcV m0 m1 m2 m3 t0 t1 n0 n1 n2 n3 g0 g1 g2 g3 hnl z1 y1
  generalize V.setCell ⟨cb, 1, none⟩ (.int .i64 ((p : Int) + 1)) = U at *
  have HUU := Lib.hid (HU2.out r (by simp only [List.length_cons] at hul; omega) U hcM)
  unfold RdPost at HUU
  clear HU2
  cases hk : rUnit r with
  | bad r2 =>
    rw [hk] at HUU HE
    clear hk
    go_wp2_with (go_at_call 63; refine (HUU.out).mono ?_; rintro e w3 ⟨hx3, rfl⟩)
    exact ⟨rfl, hqM.trans hx3, (by rw [HE.out]; rfl)⟩
  | ok g r2 =>
  rw [hk] at HUU HE
  clear hk
  go_upto_region 23 with (go_at_call 63; refine (HUU.out).mono ?_; rintro e w3 ⟨hx3, hc3, v, rfl, xa, xb, xc, xd, rfl, hg⟩; (have hg' := hg); (obtain ⟨d1, e1, d2, e2, d3, e3, rfl, rfl, rfl, rfl, -⟩ := hg'.form); clear hg')
  obtain ⟨Y, hY⟩ : ∃ Y, Y = w3.alloc (.cells #[.int .i64 g.op, .slice d1 g.vars.length e1, .slice d2 g.terms.length e2, .slice d3 g.args.length e3] 27) := ⟨_, rfl⟩
  have hxY : Ext w3 Y := by rw [hY]; exact ext_alloc _ _
  have hgY : Own Y w3.heap.size [.int .i64 g.op, .slice d1 g.vars.length e1, .slice d2 g.terms.length e2, .slice d3 g.args.length e3] := by rw [hY]; exact own4 w3 _ _ _ _ _
  have hfY := (hfM.chg hx3 (by simpa using hfc)).ext hxY
  have htY := (htM.chg hx3 (by simpa using htc)).ext hxY
  have hnY := (hnM.chg hx3 (by simpa using hnc)).ext hxY
  have hqY := (hqM.trans hx3).trans (Chg.of_ext hxY)
  have hcY := hc3.ext hxY
  have hnU := hnM.lt
  have hF := (Dat.Fs.chg hfmM hx3 (fun g hg => by simp; omega)).ext hxY
  have hG := Dat.Fs.ext (Dat.Fs.mono hg (Q := fun g => w.heap.size < g) fun g hg _ => (by omega)) hxY
  rw [← hY]
  clear hY hxY hx3 hc3 hg hfM htM hnM hqM hcM hfmM HUU
  generalize w3.heap.size = gb at *
  obtain ⟨⟨m0, -⟩, ⟨m1, -⟩, ⟨m2, -⟩, ⟨m3, -⟩⟩ := hfY.cells4
  obtain ⟨⟨s0, -⟩, ⟨s1, -⟩, ⟨s2, -⟩, ⟨s3, -⟩⟩ := hgY.cells4
  obtain ⟨t1, -⟩ := htY 1 _ rfl
  have HO := Lib.hid (fun op a n c w => of_any op a n c w)
  go_wp2_with (first | (go_at_call 65; have hx4c := hx4; refine (HO.out _ _ _ _ _).mono ?_; rintro e w5 ⟨rfl, hx5'⟩; have hx5 := (hx4.trans (ext_alloc _ _)).trans hx5'; (obtain ⟨⟨n0, g0⟩, ⟨n1, g1⟩, ⟨n2, g2⟩, ⟨n3, g3⟩⟩ := (hnY.ext hx5).cells4); have hnl := (hnY.ext hx5).lt) | (go_at_call 65; refine (HO.out _ _ _ _ _).mono ?_; rintro e w4 ⟨rfl, hx4'⟩; have hx4 := (ext_alloc _ _).trans hx4'; skip))
  refine fin4_ret (hqY.trans (Chg.of_ext hx5)) hlt (hcY.ext hx5) (hnY.ext hx5) (fun W2 r0 r1 r2 r3 => by simp [results, Try.results41, go_sem, r0, r1, r2, r3]) rfl fun W2 k1 k2 k3 => ⟨k2, ?_⟩
  rw [HE.out]
  refine ⟨k1, _, rfl, _, _, _, _, rfl, ?_⟩
  have h1 := fm_args (op := 6) (l := [f, g]) (c := 2) (by decide) (by decide) (Nat.le_refl _) (IsFms.ext (fms_two 27 hF hG (show w.heap.size < Y.heap.size from hnY.lt)) hx4')
  have h2 := fm_args (op := 5) (l := [fOf 6 [f, g]]) (c := 1) (by decide) (by decide) (Nat.le_refl _) (IsFms.ext (fms_one 27 h1 (show w.heap.size < w4.heap.size from (hnY.ext hx4).lt)) hx5')
  exact Dat.Fs.mono (Dat.Fs.chg h2 k3 (fun g hg => by simp; omega)) fun g hg _ => (show w.heap.size ≤ g by omega)
end Go.Proofs.Ytnclgkdpafhogaa
namespace Go.Proofs.Ytnclgkdpafhogaa
open Go.ChangeShapes Go.WideShapes Go.ChangeAt Go.RowKit
section
variable {cb : Nat} {l : List Tok}
set_option maxHeartbeats 16000000 in
set_option maxRecDepth 100000 in
theorem atomic_dollar (hl : l.length ≤ 1073741824) (hnel : 0 < l.length) {ks : List Tok} {w : World} (h : Cur cb l w ks) (h3 : (peekT ks).kind = 3) (hnt : (peekT ks).text ≠ sTrue) (hnf : (peekT ks).text ≠ sFalse) :
    Calls Try.prog 91 #[.pointer (some ⟨cb, 0, none⟩)] w (RdPost isFm' cb l w (rAtomic ks)) := by
  have HE := Lib.hid (atomic_eq (ks := ks) (fun h => by rcases h.2 with h1 | h1; exact hnt h1; exact hnf h1))
  have HP := Lib.hid (fun w' (hx : Ext w w') => peek_any hl (h.ext hx))
  have HC := Lib.hid h
  have hlt := h.lt
  clear h
  generalize peekT ks = t at *
  obtain ⟨kd, tx, ta⟩ := t
  simp only at h3 hnt hnf
  have q1 : (kd == 3) = true := by rw [beq_iff_eq]; exact h3
  have q2 : (tx.toList == [36, 116, 114, 117, 101]) = false := by
    have := bytes_ne (a := tx) (b := sTrue) hnt
    rwa [show sTrue.toList = [36, 116, 114, 117, 101] by decide +kernel] at this
  have q3 : (tx.toList == [36, 102, 97, 108, 115, 101]) = false := by
    have := bytes_ne (a := tx) (b := sFalse) hnf
    rwa [show sFalse.toList = [36, 102, 97, 108, 115, 101] by decide +kernel] at this
  clear h3 hnt hnf
  obtain ⟨W, hW⟩ : ∃ W, W = w.alloc (.cells #[.int .i64 0, .slice none 0 0, .slice none 0 0, .slice none 0 0] 27) := ⟨_, rfl⟩
  have hx : Ext w W := by rw [hW]; exact ext_alloc _ _
  have hnew : Own W w.heap.size [.int .i64 0, .slice none 0 0, .slice none 0 0, .slice none 0 0] := by rw [hW]; exact own4 w _ _ _ _ _
  go_enter Try.func91, Try.ntmps91
  go_upto_region 10 with (rw [← hW]; clear hW; go_at_call 53; refine (HP.out _ hx).mono ?_; rintro e w1 ⟨rfl, hx1⟩; simp only [Tok.vals])
  obtain ⟨V, hV⟩ : ∃ V, V = w1.alloc (.cells #[.int .i64 kd, .string tx, .int .i64 ta] 63) := ⟨_, rfl⟩
  have hx3 : Ext w V := by rw [hV]; exact (hx.trans hx1).alloc _
  have hnV : Own V w.heap.size [.int .i64 0, .slice none 0 0, .slice none 0 0, .slice none 0 0] := by rw [hV]; exact (hnew.ext hx1).ext (ext_alloc _ _)
  rw [← hV]
  clear hV hx hx1 hnew HP
  generalize w1.heap.size = tb
  have hcV := HC.out.ext hx3
  have hnlt := hnV.lt
  have hle := hx3.size
  have HT := Lib.hid (term_any hl hnel ks.length ks (Nat.le_refl _) V hcV)
  unfold RdPost at HT
  cases hrt : rTerm ks with
  | bad r =>
    rw [hrt] at HT HE
    clear hrt
    go_wp2_with (go_at_call 111; refine (HT.out).mono ?_; rintro e w3 ⟨hx4, rfl⟩)
    refine ⟨rfl, Chg.trans (Chg.of_ext hx3) hx4, ?_⟩
    rw [HE.out]; rfl
  | ok x r =>
    rw [hrt] at HT HE
    simp only [Rd.bind_ok] at HE
    clear hrt
    go_upto_region 11 with (go_at_call 111; refine (HT.out).mono ?_; rintro e w3 ⟨hx4, hc4, v, rfl, xa, xb, xc, rfl, hv⟩; (have hv' := hv); (obtain ⟨ea, ec, rfl, rfl, rfl, hnsz, hal, hes⟩ := hv'.form); clear hv' hes)
    obtain ⟨V3, hV3⟩ : ∃ V3, V3 = w3.alloc (.cells #[.bool x.var, .string x.name, .slice ea x.args.length ec] 67) := ⟨_, rfl⟩
    have hq3 : Chg [cb] w V3 := by rw [hV3]; exact (Chg.trans (Chg.of_ext hx3) hx4).alloc _
    have hc3 : Cur cb l V3 r := by rw [hV3]; exact hc4.ext (ext_alloc _ _)
    have hne : w.heap.size ≠ cb := by omega
    have hn3 : Own V3 w.heap.size [.int .i64 0, .slice none 0 0, .slice none 0 0, .slice none 0 0] := by rw [hV3]; exact (hnV.chg hx4 (by simpa using hne)).ext (ext_alloc _ _)
    have hxb : Own V3 w3.heap.size [.bool x.var, .string x.name, .slice ea x.args.length ec] := by rw [hV3]; exact own3 w3 _ _ _ _
    have hv3 : IsEx (fun g => w.heap.size ≤ g ∧ g ≠ w.heap.size ∧ g ≠ cb) V3 (.bool x.var) (.string x.name) (.slice ea x.args.length ec) x := by rw [hV3]; exact (Dat.Fs.mono hv (fun g hg _ => ⟨Nat.le_trans hle hg, by omega, by omega⟩)).ext (ext_alloc _ _)
    have hxn : w.heap.size < w3.heap.size := Nat.lt_of_lt_of_le hnlt hx4.size
    rw [← hV3]
    clear hV3 hx3 hx4 hc4 hv hnV hcV HC HT hnlt hle
    generalize w3.heap.size = xb at *
    have hcx : xb ≠ cb := by omega
    clear w3 V
    unfold rAtomicTail at HE
    cases ht : takeS sEq r with
    | some r1 =>
      rw [ht] at HE
      simp only at HE
      have HT := Lib.hid (take_yes hl hc3 ht)
      have HT2 := Lib.hid (fun w' (h : Cur cb l w' r1) => term_any hl hnel r1.length r1 (Nat.le_refl _) w' h)
      unfold RdPost at HT2
      simp only [sEq] at HT
      clear ht
      cases hr2 : rTerm r1 with
      | bad r2 =>
        rw [hr2] at HT2 HE
        clear hr2
        go_upto_region 12 with (go_at_call 64; refine (HT.out).mono ?_; rintro e w4 ⟨rfl, hc4, hx4⟩)
        have hxb4 := hxb.chg hx4 (by simpa using hcx)
        obtain ⟨m0, -⟩ := hxb4 0 _ rfl
        obtain ⟨m1, -⟩ := hxb4 1 _ rfl
        obtain ⟨m2, -⟩ := hxb4 2 _ rfl
        refine wp_region_any (by kernel_rfl) ?_
        change wpAny _ _ _ _ _ _ _ (World.drew _)
        refine wpAny_take (i := 1) (v := .pointer (some ⟨cb, 0, none⟩)) rfl (by kernel_rfl) (by kernel_rfl) (by kernel_rfl) (fun _ _ _ h => h) (Or.inl ⟨by rfl, fun w0 => ?_⟩) ?_
        · go_simp
        refine wpAny_ready (rs := [0, 2]) (by kernel_rfl) (by simp) ?_
        refine AllReady.cons rfl (fun K hK => ?_) (AllReady.cons rfl (fun K hK => ?_) AllReady.nil)
        · go_simp
          refine hK _ _ ?_
          clear hK K
          refine wpAny_ready (rs := [2]) (by kernel_rfl) (by simp) ?_
          refine AllReady.cons rfl (fun K hK => ?_) AllReady.nil
          go_simp
          refine (HT2.out _ (hc4.ext (Ext.drew (Below.refl _ _)))).mono ?_
          rintro e w5 ⟨hx5, rfl⟩
          exact ⟨rfl, ((hq3.trans hx4).trans (Chg.trans (Chg.of_ext (Ext.drew (Below.refl _ _))) hx5)), (by rw [HE.out]; rfl)⟩
        · go_simp
          refine (HT2.out _ (hc4.ext (Ext.drew (Below.refl _ _)))).mono ?_
          rintro e w5 ⟨hx5, rfl⟩
          exact ⟨rfl, ((hq3.trans hx4).trans (Chg.trans (Chg.of_ext (Ext.drew (Below.refl _ _))) hx5)), (by rw [HE.out]; rfl)⟩
      | ok y r2 =>
        rw [hr2] at HT2 HE
        clear hr2
        go_upto_region 12 with (go_at_call 64; refine (HT.out).mono ?_; rintro e w4 ⟨rfl, hc4, hx4⟩)
        have hxb4 := hxb.chg hx4 (by simpa using hcx)
        have hn4 := hn3.chg hx4 (by simpa using hne)
        obtain ⟨m0, -⟩ := hxb4 0 _ rfl
        obtain ⟨m1, -⟩ := hxb4 1 _ rfl
        obtain ⟨m2, -⟩ := hxb4 2 _ rfl
        have hnlt := hn4.lt
        go_region_with (go_at_call 111; refine (HT2.out _ (hc4.ext (Ext.drew (Below.refl _ _)))).mono ?_; rintro e w5 ⟨hx5, hc5, v, rfl, ya, yb, yc, rfl, hy⟩; have hx5' := Chg.trans (Chg.of_ext (Ext.drew (Below.refl (World.heap w4).size w4))) hx5; clear m0 m1 m2; (have hxb5 := hxb4.chg hx5' (by simpa using hcx)); (have hn5 := hn4.chg hx5' (by simpa using hne)); (obtain ⟨m0, -⟩ := hxb5 0 _ rfl); (obtain ⟨m1, -⟩ := hxb5 1 _ rfl); (obtain ⟨m2, -⟩ := hxb5 2 _ rfl); (obtain ⟨n0, g0⟩ := hn5 0 _ rfl); (obtain ⟨n1, g1⟩ := hn5 1 _ rfl); (obtain ⟨n2, g2⟩ := hn5 2 _ rfl); (obtain ⟨n3, g3⟩ := hn5 3 _ rfl); have hnlt5 := hn5.lt; (obtain ⟨ya', yc', hya, hyb, hyc, hysz, hyal, -⟩ := hy.form); subst hya; subst hyb; subst hyc)
        all_goals
          go_wp2
          refine fin4_alloc ((hq3.trans hx4).trans hx5') hlt hc5 hn5 _ (fun W2 r0 r1 r2 r3 => by simp [results, Try.results91, go_sem, r0, r1, r2, r3]) rfl fun W1 hW k1 k2 k3 => ⟨k2, ?_⟩
          rw [HE.out]
          refine ⟨k1, _, rfl, _, _, _, _, rfl, ?_⟩
          have hs := exs_two 67 (hv3.move hx4 hx5' k3) (hy.moved (B := w4.drew.heap.size) (show w.heap.size < w4.heap.size from hnlt) k3) (show w.heap.size ≤ W1.heap.size by omega)
          rw [hW] at hs
          exact fm_terms (l := [x, y]) (c := 2) (by decide) (by decide) (Nat.le_refl _) hs
    | none =>
      rw [ht] at HE
      simp only at HE
      have HT := Lib.hid (take_no hl hc3 ht)
      simp only [sEq] at HT
      clear ht
      cases ht2 : takeS sNe r with
      | some r1 =>
        rw [ht2] at HE
        simp only at HE
        have HN := Lib.hid (fun w' (h : Cur cb l w' r) => take_yes hl h ht2)
        have HT2 := Lib.hid (fun w' (h : Cur cb l w' r1) => term_any hl hnel r1.length r1 (Nat.le_refl _) w' h)
        have HO := Lib.hid (fun b w => of_any 5 (some ⟨b, 0, none⟩) 1 1 w)
        unfold RdPost at HT2
        simp only [sNe] at HN
        clear ht2
        cases hr2 : rTerm r1 with
        | bad r2 =>
          rw [hr2] at HT2 HE
          clear hr2
          go_upto_region 14 with (first | (with_reducible (go_at_call 64); with_reducible refine (HT.out).mono ?_; rintro e w4' ⟨rfl, hxt⟩) | (go_at_call 64; refine (HN.out _ (hc3.ext hxt)).mono ?_; rintro e w4 ⟨rfl, hc4, hx4'⟩; have hx4 := Chg.trans (Chg.of_ext hxt) hx4'))
          have hxb4 := hxb.chg hx4 (by simpa using hcx)
          obtain ⟨m0, -⟩ := hxb4 0 _ rfl
          obtain ⟨m1, -⟩ := hxb4 1 _ rfl
          obtain ⟨m2, -⟩ := hxb4 2 _ rfl
          refine wp_region_any (by kernel_rfl) ?_
          change wpAny _ _ _ _ _ _ _ (World.drew _)
          refine wpAny_take (i := 1) (v := .pointer (some ⟨cb, 0, none⟩)) rfl (by kernel_rfl) (by kernel_rfl) (by kernel_rfl) (fun _ _ _ h => h) (Or.inl ⟨by rfl, fun w0 => ?_⟩) ?_
          · go_simp
          refine wpAny_ready (rs := [0, 2]) (by kernel_rfl) (by simp) ?_
          refine AllReady.cons rfl (fun K hK => ?_) (AllReady.cons rfl (fun K hK => ?_) AllReady.nil)
          · go_simp
            refine hK _ _ ?_
            clear hK K
            refine wpAny_ready (rs := [2]) (by kernel_rfl) (by simp) ?_
            refine AllReady.cons rfl (fun K hK => ?_) AllReady.nil
            go_simp
            refine (HT2.out _ (hc4.ext (Ext.drew (Below.refl _ _)))).mono ?_
            rintro e w5 ⟨hx5, rfl⟩
            exact ⟨rfl, ((hq3.trans hx4).trans (Chg.trans (Chg.of_ext (Ext.drew (Below.refl _ _))) hx5)), (by rw [HE.out]; rfl)⟩
          · go_simp
            refine (HT2.out _ (hc4.ext (Ext.drew (Below.refl _ _)))).mono ?_
            rintro e w5 ⟨hx5, rfl⟩
            exact ⟨rfl, ((hq3.trans hx4).trans (Chg.trans (Chg.of_ext (Ext.drew (Below.refl _ _))) hx5)), (by rw [HE.out]; rfl)⟩
        | ok y r2 =>
          rw [hr2] at HT2 HE
          clear hr2
          go_upto_region 14 with (first | (with_reducible (go_at_call 64); with_reducible refine (HT.out).mono ?_; rintro e w4' ⟨rfl, hxt⟩) | (go_at_call 64; refine (HN.out _ (hc3.ext hxt)).mono ?_; rintro e w4 ⟨rfl, hc4, hx4'⟩; have hx4 := Chg.trans (Chg.of_ext hxt) hx4'))
          have hxb4 := hxb.chg hx4 (by simpa using hcx)
          have hn4 := hn3.chg hx4 (by simpa using hne)
          obtain ⟨m0, -⟩ := hxb4 0 _ rfl
          obtain ⟨m1, -⟩ := hxb4 1 _ rfl
          obtain ⟨m2, -⟩ := hxb4 2 _ rfl
          have hnlt := hn4.lt
          go_region_with (first | (go_at_call 111; refine (HT2.out _ (hc4.ext (Ext.drew (Below.refl _ _)))).mono ?_; rintro e w5 ⟨hx5, hc5, v, rfl, ya, yb, yc, rfl, hy⟩; have hx5' := Chg.trans (Chg.of_ext (Ext.drew (Below.refl (World.heap w4).size w4))) hx5; clear m0 m1 m2; (have hxb5 := hxb4.chg hx5' (by simpa using hcx)); (have hn5 := hn4.chg hx5' (by simpa using hne)); (obtain ⟨m0, -⟩ := hxb5 0 _ rfl); (obtain ⟨m1, -⟩ := hxb5 1 _ rfl); (obtain ⟨m2, -⟩ := hxb5 2 _ rfl); have hnlt5 := hn5.lt; (obtain ⟨ya', yc', hya, hyb, hyc, hysz, hyal, -⟩ := hy.form); subst hya; subst hyb; subst hyc) | (go_at_call 65; refine (HO.out _ _).mono ?_; rintro e w6 ⟨rfl, hx6'⟩; have hx6 := ((ext_alloc _ _).trans (ext_alloc _ _)).trans hx6'; (obtain ⟨n0, g0⟩ := hn5.ext hx6 0 _ rfl); (obtain ⟨n1, g1⟩ := hn5.ext hx6 1 _ rfl); (obtain ⟨n2, g2⟩ := hn5.ext hx6 2 _ rfl); (obtain ⟨n3, g3⟩ := hn5.ext hx6 3 _ rfl)))
          all_goals
            go_wp2
            refine fin4_ret (((hq3.trans hx4).trans hx5').trans (Chg.of_ext hx6)) hlt (hc5.ext hx6) (hn5.ext hx6) (fun W2 r0 r1 r2 r3 => by simp [results, Try.results91, go_sem, r0, r1, r2, r3]) rfl fun W2 k1 k2 k3 => ⟨k2, ?_⟩
            rw [HE.out]
            refine ⟨k1, _, rfl, _, _, _, _, rfl, ?_⟩
            have hX : IsEx (fun g => w.heap.size ≤ g ∧ g ≠ w.heap.size) w5 _ _ _ x := Dat.Fs.mono (Dat.Fs.chg hv3 (hx4.trans hx5') (fun g hg => by simpa using hg.2.2)) fun g hg _ => ⟨hg.1, hg.2.1⟩
            have hY : IsEx (fun g => w.heap.size ≤ g ∧ g ≠ w.heap.size) w5 _ _ _ y := Dat.Fs.mono hy fun g hg _ => (show w.heap.size ≤ g ∧ g ≠ w.heap.size by have : w4.heap.size ≤ g := hg; omega)
            have h1 := fm_terms (op := 4) (l := [x, y]) (c := 2) (by decide) (by decide) (Nat.le_refl _) (exs_two 67 hX hY ⟨by omega, by omega⟩)
            have h2 := fms_one 27 h1 (show _ ∧ _ by simp; omega)
            have h3 := fm_args (op := 5) (l := [fEq x y]) (c := 1) (by decide) (by decide) (Nat.le_refl _) (IsFms.ext h2 hx6')
            have h4 := Dat.Fs.mono (Dat.Fs.chg h3 k3 (fun g hg => by simpa using hg.2)) (Q := fun g => w.heap.size ≤ g) fun g hg _ => hg.1
            rw [World.size_alloc] at h4
            exact h4
      | none =>
        rw [ht2] at HE
        simp only at HE
        have HN := Lib.hid (fun w' (h : Cur cb l w' r) => take_no hl h ht2)
        simp only [sNe] at HN
        clear ht2
        have HB := Lib.hid (fun w' (h : Cur cb l w' r) => bad_any hl hnel h)
        cases hxv : x.var with
        | true =>
          rw [hxv] at hxb HE
          clear hxv
          go_wp2_with (first | (with_reducible (go_at_call 64); with_reducible refine (HT.out).mono ?_; rintro e w4' ⟨rfl, hxt⟩) | (go_at_call 64; refine (HN.out _ (hc3.ext hxt)).mono ?_; rintro e w4 ⟨rfl, hx4'⟩; have hx4 := hxt.trans hx4'; (obtain ⟨m0, -⟩ := hxb.ext hx4 0 _ rfl)) | (go_at_call 56; refine (HB.out _ (hc3.ext hx4)).mono ?_; rintro e w5 ⟨rfl, hx5⟩))
          exact ⟨rfl, (hq3.trans (Chg.of_ext (hx4.trans hx5))), (by rw [HE.out]; rfl)⟩
        | false =>
          rw [hxv] at hxb HE hv3
          clear hxv
          have hn3lt := hn3.lt
          go_wp2_with (first | (with_reducible (go_at_call 64); with_reducible refine (HT.out).mono ?_; rintro e w4' ⟨rfl, hxt⟩) | (go_at_call 64; refine (HN.out _ (hc3.ext hxt)).mono ?_; rintro e w4 ⟨rfl, hx4'⟩; have hx4 := hxt.trans hx4'; have hnlt4 := (hn3.ext hx4).lt; (obtain ⟨m0, -⟩ := hxb.ext hx4 0 _ rfl); (obtain ⟨m1, -⟩ := hxb.ext hx4 1 _ rfl); (obtain ⟨m2, -⟩ := hxb.ext hx4 2 _ rfl); (obtain ⟨n0, g0⟩ := hn3.ext hx4 0 _ rfl); (obtain ⟨n1, g1⟩ := hn3.ext hx4 1 _ rfl); (obtain ⟨n2, g2⟩ := hn3.ext hx4 2 _ rfl); (obtain ⟨n3, g3⟩ := hn3.ext hx4 3 _ rfl)))
          refine fin4_alloc (hq3.trans (Chg.of_ext hx4)) hlt (hc3.ext hx4) (hn3.ext hx4) _ (fun W2 r0 r1 r2 r3 => by simp [results, Try.results91, go_sem, r0, r1, r2, r3]) rfl fun W1 hW k1 k2 k3 => ⟨k2, ?_⟩
          rw [HE.out]
          refine ⟨k1, _, rfl, _, _, _, _, rfl, ?_⟩
          have hs := exs_one 67 (hv3.move (Chg.of_ext hx4) (Chg.refl _ _) k3) (show w.heap.size ≤ W1.heap.size by omega)
          rw [hW] at hs
          exact fm_terms (l := [x]) (c := 1) (by decide) (by decide) (Nat.le_refl _) hs
end
end Go.Proofs.Ytnclgkdpafhogaa
namespace Go.Proofs.Ytnclgkdpafhogaa
open Go.ChangeShapes Go.WideShapes Go.ChangeAt Go.RowKit
section
variable {cb : Nat} {l : List Tok}
set_option maxHeartbeats 16000000 in
set_option maxRecDepth 100000 in
theorem atomic_no (hl : l.length ≤ 1073741824) (hnel : 0 < l.length) {ks : List Tok} {w : World} (h : Cur cb l w ks) (h3 : (peekT ks).kind ≠ 3) :
    Calls Try.prog 91 #[.pointer (some ⟨cb, 0, none⟩)] w (RdPost isFm' cb l w (rAtomic ks)) := by
  have HE := Lib.hid (atomic_eq (ks := ks) (fun h => h3 h.1))
  have HP := Lib.hid (fun w' (hx : Ext w w') => peek_any hl (h.ext hx))
  have HC := Lib.hid h
  have hlt := h.lt
  clear h
  generalize peekT ks = t at *
  obtain ⟨kd, tx, ta⟩ := t
  simp only at h3
  have q1 : (kd == 3) = false := by rw [beq_eq_false_iff_ne]; exact h3
  clear h3
  obtain ⟨W, hW⟩ : ∃ W, W = w.alloc (.cells #[.int .i64 0, .slice none 0 0, .slice none 0 0, .slice none 0 0] 27) := ⟨_, rfl⟩
  have hx : Ext w W := by rw [hW]; exact ext_alloc _ _
  have hnew : Own W w.heap.size [.int .i64 0, .slice none 0 0, .slice none 0 0, .slice none 0 0] := by rw [hW]; exact own4 w _ _ _ _ _
  go_enter Try.func91, Try.ntmps91
  go_upto_region 10 with (rw [← hW]; clear hW; go_at_call 53; refine (HP.out _ hx).mono ?_; rintro e w1 ⟨rfl, hx1⟩; simp only [Tok.vals])
  obtain ⟨V, hV⟩ : ∃ V, V = w1.alloc (.cells #[.int .i64 kd, .string tx, .int .i64 ta] 63) := ⟨_, rfl⟩
  have hx3 : Ext w V := by rw [hV]; exact (hx.trans hx1).alloc _
  have hnV : Own V w.heap.size [.int .i64 0, .slice none 0 0, .slice none 0 0, .slice none 0 0] := by rw [hV]; exact (hnew.ext hx1).ext (ext_alloc _ _)
  rw [← hV]
  clear hV hx hx1 hnew HP
  generalize w1.heap.size = tb
  have hcV := HC.out.ext hx3
  have hnlt := hnV.lt
  have hle := hx3.size
  have HT := Lib.hid (term_any hl hnel ks.length ks (Nat.le_refl _) V hcV)
  unfold RdPost at HT
  cases hrt : rTerm ks with
  | bad r =>
    rw [hrt] at HT HE
    clear hrt
    go_wp2_with (go_at_call 111; refine (HT.out).mono ?_; rintro e w3 ⟨hx4, rfl⟩)
    refine ⟨rfl, Chg.trans (Chg.of_ext hx3) hx4, ?_⟩
    rw [HE.out]; rfl
  | ok x r =>
    rw [hrt] at HT HE
    simp only [Rd.bind_ok] at HE
    clear hrt
    go_upto_region 11 with (go_at_call 111; refine (HT.out).mono ?_; rintro e w3 ⟨hx4, hc4, v, rfl, xa, xb, xc, rfl, hv⟩; (have hv' := hv); (obtain ⟨ea, ec, rfl, rfl, rfl, hnsz, hal, hes⟩ := hv'.form); clear hv' hes)
    obtain ⟨V3, hV3⟩ : ∃ V3, V3 = w3.alloc (.cells #[.bool x.var, .string x.name, .slice ea x.args.length ec] 67) := ⟨_, rfl⟩
    have hq3 : Chg [cb] w V3 := by rw [hV3]; exact (Chg.trans (Chg.of_ext hx3) hx4).alloc _
    have hc3 : Cur cb l V3 r := by rw [hV3]; exact hc4.ext (ext_alloc _ _)
    have hne : w.heap.size ≠ cb := by omega
    have hn3 : Own V3 w.heap.size [.int .i64 0, .slice none 0 0, .slice none 0 0, .slice none 0 0] := by rw [hV3]; exact (hnV.chg hx4 (by simpa using hne)).ext (ext_alloc _ _)
    have hxb : Own V3 w3.heap.size [.bool x.var, .string x.name, .slice ea x.args.length ec] := by rw [hV3]; exact own3 w3 _ _ _ _
    have hv3 : IsEx (fun g => w.heap.size ≤ g ∧ g ≠ w.heap.size ∧ g ≠ cb) V3 (.bool x.var) (.string x.name) (.slice ea x.args.length ec) x := by rw [hV3]; exact (Dat.Fs.mono hv (fun g hg _ => ⟨Nat.le_trans hle hg, by omega, by omega⟩)).ext (ext_alloc _ _)
    have hxn : w.heap.size < w3.heap.size := Nat.lt_of_lt_of_le hnlt hx4.size
    rw [← hV3]
    clear hV3 hx3 hx4 hc4 hv hnV hcV HC HT hnlt hle
    generalize w3.heap.size = xb at *
    have hcx : xb ≠ cb := by omega
    clear w3 V
    unfold rAtomicTail at HE
    cases ht : takeS sEq r with
    | some r1 =>
      rw [ht] at HE
      simp only at HE
      have HT := Lib.hid (take_yes hl hc3 ht)
      have HT2 := Lib.hid (fun w' (h : Cur cb l w' r1) => term_any hl hnel r1.length r1 (Nat.le_refl _) w' h)
      unfold RdPost at HT2
      simp only [sEq] at HT
      clear ht
      cases hr2 : rTerm r1 with
      | bad r2 =>
        rw [hr2] at HT2 HE
        clear hr2
        go_upto_region 12 with (go_at_call 64; refine (HT.out).mono ?_; rintro e w4 ⟨rfl, hc4, hx4⟩)
        have hxb4 := hxb.chg hx4 (by simpa using hcx)
        obtain ⟨m0, -⟩ := hxb4 0 _ rfl
        obtain ⟨m1, -⟩ := hxb4 1 _ rfl
        obtain ⟨m2, -⟩ := hxb4 2 _ rfl
        refine wp_region_any (by kernel_rfl) ?_
        change wpAny _ _ _ _ _ _ _ (World.drew _)
        refine wpAny_take (i := 1) (v := .pointer (some ⟨cb, 0, none⟩)) rfl (by kernel_rfl) (by kernel_rfl) (by kernel_rfl) (fun _ _ _ h => h) (Or.inl ⟨by rfl, fun w0 => ?_⟩) ?_
        · go_simp
        refine wpAny_ready (rs := [0, 2]) (by kernel_rfl) (by simp) ?_
        refine AllReady.cons rfl (fun K hK => ?_) (AllReady.cons rfl (fun K hK => ?_) AllReady.nil)
        · go_simp
          refine hK _ _ ?_
          clear hK K
          refine wpAny_ready (rs := [2]) (by kernel_rfl) (by simp) ?_
          refine AllReady.cons rfl (fun K hK => ?_) AllReady.nil
          go_simp
          refine (HT2.out _ (hc4.ext (Ext.drew (Below.refl _ _)))).mono ?_
          rintro e w5 ⟨hx5, rfl⟩
          exact ⟨rfl, ((hq3.trans hx4).trans (Chg.trans (Chg.of_ext (Ext.drew (Below.refl _ _))) hx5)), (by rw [HE.out]; rfl)⟩
        · go_simp
          refine (HT2.out _ (hc4.ext (Ext.drew (Below.refl _ _)))).mono ?_
          rintro e w5 ⟨hx5, rfl⟩
          exact ⟨rfl, ((hq3.trans hx4).trans (Chg.trans (Chg.of_ext (Ext.drew (Below.refl _ _))) hx5)), (by rw [HE.out]; rfl)⟩
      | ok y r2 =>
        rw [hr2] at HT2 HE
        clear hr2
        go_upto_region 12 with (go_at_call 64; refine (HT.out).mono ?_; rintro e w4 ⟨rfl, hc4, hx4⟩)
        have hxb4 := hxb.chg hx4 (by simpa using hcx)
        have hn4 := hn3.chg hx4 (by simpa using hne)
        obtain ⟨m0, -⟩ := hxb4 0 _ rfl
        obtain ⟨m1, -⟩ := hxb4 1 _ rfl
        obtain ⟨m2, -⟩ := hxb4 2 _ rfl
        have hnlt := hn4.lt
        go_region_with (go_at_call 111; refine (HT2.out _ (hc4.ext (Ext.drew (Below.refl _ _)))).mono ?_; rintro e w5 ⟨hx5, hc5, v, rfl, ya, yb, yc, rfl, hy⟩; have hx5' := Chg.trans (Chg.of_ext (Ext.drew (Below.refl (World.heap w4).size w4))) hx5; clear m0 m1 m2; (have hxb5 := hxb4.chg hx5' (by simpa using hcx)); (have hn5 := hn4.chg hx5' (by simpa using hne)); (obtain ⟨m0, -⟩ := hxb5 0 _ rfl); (obtain ⟨m1, -⟩ := hxb5 1 _ rfl); (obtain ⟨m2, -⟩ := hxb5 2 _ rfl); (obtain ⟨n0, g0⟩ := hn5 0 _ rfl); (obtain ⟨n1, g1⟩ := hn5 1 _ rfl); (obtain ⟨n2, g2⟩ := hn5 2 _ rfl); (obtain ⟨n3, g3⟩ := hn5 3 _ rfl); have hnlt5 := hn5.lt; (obtain ⟨ya', yc', hya, hyb, hyc, hysz, hyal, -⟩ := hy.form); subst hya; subst hyb; subst hyc)
        all_goals
          go_wp2
          refine fin4_alloc ((hq3.trans hx4).trans hx5') hlt hc5 hn5 _ (fun W2 r0 r1 r2 r3 => by simp [results, Try.results91, go_sem, r0, r1, r2, r3]) rfl fun W1 hW k1 k2 k3 => ⟨k2, ?_⟩
          rw [HE.out]
          refine ⟨k1, _, rfl, _, _, _, _, rfl, ?_⟩
          have hs := exs_two 67 (hv3.move hx4 hx5' k3) (hy.moved (B := w4.drew.heap.size) (show w.heap.size < w4.heap.size from hnlt) k3) (show w.heap.size ≤ W1.heap.size by omega)
          rw [hW] at hs
          exact fm_terms (l := [x, y]) (c := 2) (by decide) (by decide) (Nat.le_refl _) hs
    | none =>
      rw [ht] at HE
      simp only at HE
      have HT := Lib.hid (take_no hl hc3 ht)
      simp only [sEq] at HT
      clear ht
      cases ht2 : takeS sNe r with
      | some r1 =>
        rw [ht2] at HE
        simp only at HE
        have HN := Lib.hid (fun w' (h : Cur cb l w' r) => take_yes hl h ht2)
        have HT2 := Lib.hid (fun w' (h : Cur cb l w' r1) => term_any hl hnel r1.length r1 (Nat.le_refl _) w' h)
        have HO := Lib.hid (fun b w => of_any 5 (some ⟨b, 0, none⟩) 1 1 w)
        unfold RdPost at HT2
        simp only [sNe] at HN
        clear ht2
        cases hr2 : rTerm r1 with
        | bad r2 =>
          rw [hr2] at HT2 HE
          clear hr2
          go_upto_region 14 with (first | (with_reducible (go_at_call 64); with_reducible refine (HT.out).mono ?_; rintro e w4' ⟨rfl, hxt⟩) | (go_at_call 64; refine (HN.out _ (hc3.ext hxt)).mono ?_; rintro e w4 ⟨rfl, hc4, hx4'⟩; have hx4 := Chg.trans (Chg.of_ext hxt) hx4'))
          have hxb4 := hxb.chg hx4 (by simpa using hcx)
          obtain ⟨m0, -⟩ := hxb4 0 _ rfl
          obtain ⟨m1, -⟩ := hxb4 1 _ rfl
          obtain ⟨m2, -⟩ := hxb4 2 _ rfl
          refine wp_region_any (by kernel_rfl) ?_
          change wpAny _ _ _ _ _ _ _ (World.drew _)
          refine wpAny_take (i := 1) (v := .pointer (some ⟨cb, 0, none⟩)) rfl (by kernel_rfl) (by kernel_rfl) (by kernel_rfl) (fun _ _ _ h => h) (Or.inl ⟨by rfl, fun w0 => ?_⟩) ?_
          · go_simp
          refine wpAny_ready (rs := [0, 2]) (by kernel_rfl) (by simp) ?_
          refine AllReady.cons rfl (fun K hK => ?_) (AllReady.cons rfl (fun K hK => ?_) AllReady.nil)
          · go_simp
            refine hK _ _ ?_
            clear hK K
            refine wpAny_ready (rs := [2]) (by kernel_rfl) (by simp) ?_
            refine AllReady.cons rfl (fun K hK => ?_) AllReady.nil
            go_simp
            refine (HT2.out _ (hc4.ext (Ext.drew (Below.refl _ _)))).mono ?_
            rintro e w5 ⟨hx5, rfl⟩
            exact ⟨rfl, ((hq3.trans hx4).trans (Chg.trans (Chg.of_ext (Ext.drew (Below.refl _ _))) hx5)), (by rw [HE.out]; rfl)⟩
          · go_simp
            refine (HT2.out _ (hc4.ext (Ext.drew (Below.refl _ _)))).mono ?_
            rintro e w5 ⟨hx5, rfl⟩
            exact ⟨rfl, ((hq3.trans hx4).trans (Chg.trans (Chg.of_ext (Ext.drew (Below.refl _ _))) hx5)), (by rw [HE.out]; rfl)⟩
        | ok y r2 =>
          rw [hr2] at HT2 HE
          clear hr2
          go_upto_region 14 with (first | (with_reducible (go_at_call 64); with_reducible refine (HT.out).mono ?_; rintro e w4' ⟨rfl, hxt⟩) | (go_at_call 64; refine (HN.out _ (hc3.ext hxt)).mono ?_; rintro e w4 ⟨rfl, hc4, hx4'⟩; have hx4 := Chg.trans (Chg.of_ext hxt) hx4'))
          have hxb4 := hxb.chg hx4 (by simpa using hcx)
          have hn4 := hn3.chg hx4 (by simpa using hne)
          obtain ⟨m0, -⟩ := hxb4 0 _ rfl
          obtain ⟨m1, -⟩ := hxb4 1 _ rfl
          obtain ⟨m2, -⟩ := hxb4 2 _ rfl
          have hnlt := hn4.lt
          go_region_with (first | (go_at_call 111; refine (HT2.out _ (hc4.ext (Ext.drew (Below.refl _ _)))).mono ?_; rintro e w5 ⟨hx5, hc5, v, rfl, ya, yb, yc, rfl, hy⟩; have hx5' := Chg.trans (Chg.of_ext (Ext.drew (Below.refl (World.heap w4).size w4))) hx5; clear m0 m1 m2; (have hxb5 := hxb4.chg hx5' (by simpa using hcx)); (have hn5 := hn4.chg hx5' (by simpa using hne)); (obtain ⟨m0, -⟩ := hxb5 0 _ rfl); (obtain ⟨m1, -⟩ := hxb5 1 _ rfl); (obtain ⟨m2, -⟩ := hxb5 2 _ rfl); have hnlt5 := hn5.lt; (obtain ⟨ya', yc', hya, hyb, hyc, hysz, hyal, -⟩ := hy.form); subst hya; subst hyb; subst hyc) | (go_at_call 65; refine (HO.out _ _).mono ?_; rintro e w6 ⟨rfl, hx6'⟩; have hx6 := ((ext_alloc _ _).trans (ext_alloc _ _)).trans hx6'; (obtain ⟨n0, g0⟩ := hn5.ext hx6 0 _ rfl); (obtain ⟨n1, g1⟩ := hn5.ext hx6 1 _ rfl); (obtain ⟨n2, g2⟩ := hn5.ext hx6 2 _ rfl); (obtain ⟨n3, g3⟩ := hn5.ext hx6 3 _ rfl)))
          all_goals
            go_wp2
            refine fin4_ret (((hq3.trans hx4).trans hx5').trans (Chg.of_ext hx6)) hlt (hc5.ext hx6) (hn5.ext hx6) (fun W2 r0 r1 r2 r3 => by simp [results, Try.results91, go_sem, r0, r1, r2, r3]) rfl fun W2 k1 k2 k3 => ⟨k2, ?_⟩
            rw [HE.out]
            refine ⟨k1, _, rfl, _, _, _, _, rfl, ?_⟩
            have hX : IsEx (fun g => w.heap.size ≤ g ∧ g ≠ w.heap.size) w5 _ _ _ x := Dat.Fs.mono (Dat.Fs.chg hv3 (hx4.trans hx5') (fun g hg => by simpa using hg.2.2)) fun g hg _ => ⟨hg.1, hg.2.1⟩
            have hY : IsEx (fun g => w.heap.size ≤ g ∧ g ≠ w.heap.size) w5 _ _ _ y := Dat.Fs.mono hy fun g hg _ => (show w.heap.size ≤ g ∧ g ≠ w.heap.size by have : w4.heap.size ≤ g := hg; omega)
            have h1 := fm_terms (op := 4) (l := [x, y]) (c := 2) (by decide) (by decide) (Nat.le_refl _) (exs_two 67 hX hY ⟨by omega, by omega⟩)
            have h2 := fms_one 27 h1 (show _ ∧ _ by simp; omega)
            have h3 := fm_args (op := 5) (l := [fEq x y]) (c := 1) (by decide) (by decide) (Nat.le_refl _) (IsFms.ext h2 hx6')
            have h4 := Dat.Fs.mono (Dat.Fs.chg h3 k3 (fun g hg => by simpa using hg.2)) (Q := fun g => w.heap.size ≤ g) fun g hg _ => hg.1
            rw [World.size_alloc] at h4
            exact h4
      | none =>
        rw [ht2] at HE
        simp only at HE
        have HN := Lib.hid (fun w' (h : Cur cb l w' r) => take_no hl h ht2)
        simp only [sNe] at HN
        clear ht2
        have HB := Lib.hid (fun w' (h : Cur cb l w' r) => bad_any hl hnel h)
        cases hxv : x.var with
        | true =>
          rw [hxv] at hxb HE
          clear hxv
          go_wp2_with (first | (with_reducible (go_at_call 64); with_reducible refine (HT.out).mono ?_; rintro e w4' ⟨rfl, hxt⟩) | (go_at_call 64; refine (HN.out _ (hc3.ext hxt)).mono ?_; rintro e w4 ⟨rfl, hx4'⟩; have hx4 := hxt.trans hx4'; (obtain ⟨m0, -⟩ := hxb.ext hx4 0 _ rfl)) | (go_at_call 56; refine (HB.out _ (hc3.ext hx4)).mono ?_; rintro e w5 ⟨rfl, hx5⟩))
          exact ⟨rfl, (hq3.trans (Chg.of_ext (hx4.trans hx5))), (by rw [HE.out]; rfl)⟩
        | false =>
          rw [hxv] at hxb HE hv3
          clear hxv
          have hn3lt := hn3.lt
          go_wp2_with (first | (with_reducible (go_at_call 64); with_reducible refine (HT.out).mono ?_; rintro e w4' ⟨rfl, hxt⟩) | (go_at_call 64; refine (HN.out _ (hc3.ext hxt)).mono ?_; rintro e w4 ⟨rfl, hx4'⟩; have hx4 := hxt.trans hx4'; have hnlt4 := (hn3.ext hx4).lt; (obtain ⟨m0, -⟩ := hxb.ext hx4 0 _ rfl); (obtain ⟨m1, -⟩ := hxb.ext hx4 1 _ rfl); (obtain ⟨m2, -⟩ := hxb.ext hx4 2 _ rfl); (obtain ⟨n0, g0⟩ := hn3.ext hx4 0 _ rfl); (obtain ⟨n1, g1⟩ := hn3.ext hx4 1 _ rfl); (obtain ⟨n2, g2⟩ := hn3.ext hx4 2 _ rfl); (obtain ⟨n3, g3⟩ := hn3.ext hx4 3 _ rfl)))
          refine fin4_alloc (hq3.trans (Chg.of_ext hx4)) hlt (hc3.ext hx4) (hn3.ext hx4) _ (fun W2 r0 r1 r2 r3 => by simp [results, Try.results91, go_sem, r0, r1, r2, r3]) rfl fun W1 hW k1 k2 k3 => ⟨k2, ?_⟩
          rw [HE.out]
          refine ⟨k1, _, rfl, _, _, _, _, rfl, ?_⟩
          have hs := exs_one 67 (hv3.move (Chg.of_ext hx4) (Chg.refl _ _) k3) (show w.heap.size ≤ W1.heap.size by omega)
          rw [hW] at hs
          exact fm_terms (l := [x]) (c := 1) (by decide) (by decide) (Nat.le_refl _) hs
end
end Go.Proofs.Ytnclgkdpafhogaa
namespace Go.Proofs.Ytnclgkdpafhogaa
open Go.ChangeShapes Go.WideShapes Go.ChangeAt Go.RowKit
theorem binary_cases {s : ByteArray} {b : Fm → Fm → Fm} (h : binary s = some b) : s = sImp ∨ s = sRev ∨ s = sIff ∨ s = sXor ∨ s = sNor ∨ s = sNand := by
  unfold binary at h
  repeat' split at h
  all_goals first
    | (cases h; done)
    | simp_all
theorem form_any {cb : Nat} {l : List Tok} (hl : l.length ≤ 1073741824) {n : Nat} (hU : UnitOK cb l n) {ks : List Tok} (hkn : ks.length ≤ n) {w : World} (h : Cur cb l w ks) :
    Calls Try.prog 41 #[.pointer (some ⟨cb, 0, none⟩)] w (RdPost isFm' cb l w (formStep rUnit ks)) := by
  cases hu : rUnit ks with
  | bad r => exact form_bad hU hkn h hu
  | ok f r =>
    by_cases h6 : (peekT r).kind = 6
    · cases r with
      | nil => exact absurd h6 (by decide)
      | cons t r =>
        have h6 : t.kind = 6 := h6
        by_cases ha : t.text = sAnd
        · exact form_and hl hU hkn h hu h6 ha
        · by_cases ho : t.text = sOr
          · exact form_or hl hU hkn h hu h6 ho
          · cases hb : binary t.text with
            | none => exact form_other hl hU hkn h hu h6 ha ho hb
            | some b =>
              rcases binary_cases hb with h1 | h1 | h1 | h1 | h1 | h1
              · exact form_imp hl hU hkn h hu h6 h1
              · exact form_rev hl hU hkn h hu h6 h1
              · exact form_iff hl hU hkn h hu h6 h1
              · exact form_xor hl hU hkn h hu h6 h1
              · exact form_nor hl hU hkn h hu h6 h1
              · exact form_nand hl hU hkn h hu h6 h1
    · exact form_end hl hU hkn h hu h6
theorem atomic_any {cb : Nat} {l : List Tok} (hl : l.length ≤ 1073741824) (hnel : 0 < l.length) {ks : List Tok} {w : World} (h : Cur cb l w ks) :
    Calls Try.prog 91 #[.pointer (some ⟨cb, 0, none⟩)] w (RdPost isFm' cb l w (rAtomic ks)) := by
  by_cases h3 : (peekT ks).kind = 3
  · by_cases ht : (peekT ks).text = sTrue
    · cases ks with
      | nil => exact absurd h3 (by decide)
      | cons t r => exact atomic_const hl h h3 true ht
    · by_cases hf : (peekT ks).text = sFalse
      · cases ks with
        | nil => exact absurd h3 (by decide)
        | cons t r => exact atomic_const hl h h3 false hf
      · exact atomic_dollar hl hnel h h3 ht hf
  · exact atomic_no hl hnel h h3
set_option maxHeartbeats 8000000 in
set_option maxRecDepth 100000 in
theorem unit_not {cb : Nat} {l : List Tok} (hl : l.length ≤ 1073741824) (hnel : 0 < l.length) {n : Nat} (hU : UnitOK cb l n) {ks : List Tok} (hkn : ks.length ≤ n + 1) {w : World} (h : Cur cb l w ks) {r : List Tok} (h1 : takeS sNot ks = some r) :
    Calls Try.prog 63 #[.pointer (some ⟨cb, 0, none⟩)] w (RdPost isFm' cb l w (rUnit ks)) := by
  have HE := Lib.hid (show rUnit ks = (rUnit r).map fNot by rw [rUnit_eq]; unfold unitStep; rw [h1])
  have HT1 := Lib.hid (fun w' (h : Cur cb l w' ks) => take_yes hl h h1)
  simp only [sNot] at HT1
  have hrl := takeS_lt h1
  clear h1
  have HC := Lib.hid h
  have hlt := h.lt
  have hne : w.heap.size ≠ cb := by omega
  clear h
  obtain ⟨W, hW⟩ : ∃ W, W = w.alloc (.cells #[.int .i64 0, .slice none 0 0, .slice none 0 0, .slice none 0 0] 27) := ⟨_, rfl⟩
  have hx0 : Ext w W := by rw [hW]; exact ext_alloc _ _
  have hnW : Own W w.heap.size [.int .i64 0, .slice none 0 0, .slice none 0 0, .slice none 0 0] := by rw [hW]; exact own4 w _ _ _ _ _
  go_enter Try.func63, Try.ntmps63
  go_upto_region 2 with (first | (rw [← hW]; clear hW; go_at_call 64; with_reducible refine (HT1.out _ (HC.out.ext hx0)).mono ?_; rintro e w1 ⟨rfl, hcY, hx1'⟩; have hqY := Chg.trans (Chg.of_ext hx0) hx1'))
  have hnY := hnW.chg hx1' (by simpa using hne)
  have hnl := hnY.lt
  generalize w1 = Y at *
  clear HC HT1 hnW
  have HX := Lib.hid (hU r (by omega) Y hcY)
  have HO := Lib.hid (fun a n c w => of_any 5 a n c w)
  unfold RdPost at HX
  cases hk : rUnit r with
  | bad r2 =>
    rw [hk] at HX HE
    clear hk
    go_wp2_with (go_at_call 63; refine (HX.out).mono ?_; rintro e w6 ⟨hx6, rfl⟩)
    exact ⟨rfl, hqY.trans hx6, (by rw [HE.out]; rfl)⟩
  | ok g r2 =>
    rw [hk] at HX HE
    clear hk
    go_wp2_with (first | (go_at_call 63; refine (HX.out).mono ?_; rintro e w6 ⟨hx6, hc6, v, rfl, xa, xb, xc, xd, rfl, hg⟩; (have hg' := hg); (obtain ⟨d1, e1, d2, e2, d3, e3, rfl, rfl, rfl, rfl, -⟩ := hg'.form); clear hg'; have hn6 := hnY.chg hx6 (by simpa using hne)) | (go_at_call 65; refine (HO.out _ _ _ _).mono ?_; rintro e w7 ⟨rfl, hx7'⟩; have hx7 := (ext_alloc _ _).trans hx7'; (obtain ⟨⟨n0, g0⟩, ⟨n1, g1⟩, ⟨n2, g2⟩, ⟨n3, g3⟩⟩ := (hn6.ext hx7).cells4); have hnl6 := (hn6.ext hx7).lt))
    refine fin4_ret ((hqY.trans hx6).trans (Chg.of_ext hx7)) hlt (hc6.ext hx7) (hn6.ext hx7) (fun W2 r0 r1 r2 r3 => by simp [results, Try.results63, go_sem, r0, r1, r2, r3]) rfl fun W2 k1 k2 k3 => ⟨k2, ?_⟩
    rw [HE.out]
    refine ⟨k1, _, rfl, _, _, _, _, rfl, ?_⟩
    have h2 := fm_args (op := 5) (l := [g]) (c := 1) (by decide) (by decide) (Nat.le_refl _) (IsFms.ext (fms_one 27 (Dat.Fs.mono hg (Q := fun g => w.heap.size < g) fun g hg _ => (by omega)) (show w.heap.size < w6.heap.size from hn6.lt)) hx7')
    exact Dat.Fs.mono (Dat.Fs.chg h2 k3 (fun g hg => by simp; omega)) fun g hg _ => (show w.heap.size ≤ g by omega)
set_option maxHeartbeats 8000000 in
set_option maxRecDepth 100000 in
theorem unit_all {cb : Nat} {l : List Tok} (hl : l.length ≤ 1073741824) (hnel : 0 < l.length) {n : Nat} (hU : UnitOK cb l n) {ks : List Tok} (hkn : ks.length ≤ n + 1) {w : World} (h : Cur cb l w ks) (h1 : takeS sNot ks = none) {r : List Tok} (h2 : takeS sAll ks = some r) :
    Calls Try.prog 63 #[.pointer (some ⟨cb, 0, none⟩)] w (RdPost isFm' cb l w (rUnit ks)) := by
  have HE := Lib.hid (show rUnit ks = boundStep rUnit 11 r by rw [rUnit_eq]; unfold unitStep; rw [h1, h2])
  have HT1 := Lib.hid (fun w' (h : Cur cb l w' ks) => take_no hl h h1)
  simp only [sNot] at HT1
  have HT2 := Lib.hid (fun w' (h : Cur cb l w' ks) => take_yes hl h h2)
  simp only [sAll] at HT2
  have hrl := takeS_lt h2
  clear h1 h2
  have HC := Lib.hid h
  have hlt := h.lt
  have hne : w.heap.size ≠ cb := by omega
  clear h
  obtain ⟨W, hW⟩ : ∃ W, W = w.alloc (.cells #[.int .i64 0, .slice none 0 0, .slice none 0 0, .slice none 0 0] 27) := ⟨_, rfl⟩
  have hx0 : Ext w W := by rw [hW]; exact ext_alloc _ _
  have hnW : Own W w.heap.size [.int .i64 0, .slice none 0 0, .slice none 0 0, .slice none 0 0] := by rw [hW]; exact own4 w _ _ _ _ _
  go_enter Try.func63, Try.ntmps63
  go_upto_region 4 with (first | (rw [← hW]; clear hW; go_at_call 64; with_reducible refine (HT1.out _ (HC.out.ext hx0)).mono ?_; rintro e w1 ⟨rfl, hx1'⟩; have hx1 := hx0.trans hx1') | (go_at_call 64; with_reducible refine (HT2.out _ (HC.out.ext hx1)).mono ?_; rintro e w2 ⟨rfl, hcY, hx2'⟩; have hqY := Chg.trans (Chg.of_ext hx1) hx2'))
  have hnY := ((hnW.ext (hx1')).chg hx2' (by simpa using hne))
  have hnl := hnY.lt
  generalize w2 = Y at *
  clear HC HT1 HT2 hnW
  have HX := Lib.hid (bound_any hl hnel hU (show r.length ≤ n by omega) hcY 11 (by decide) (by decide))
  unfold RdPost at HX
  cases hk : boundStep rUnit 11 r with
  | bad r2 =>
    rw [hk] at HX HE
    clear hk
    go_wp2_with (go_at_call 90; refine (HX.out).mono ?_; rintro e w6 ⟨hx6, rfl⟩)
    exact ⟨rfl, hqY.trans hx6, (by rw [HE.out])⟩
  | ok g r2 =>
    rw [hk] at HX HE
    clear hk
    go_wp2_with (go_at_call 90; refine (HX.out).mono ?_; rintro e w6 ⟨hx6, hc6, v, rfl, xa, xb, xc, xd, rfl, hg⟩; (have hg' := hg); (obtain ⟨d1, e1, d2, e2, d3, e3, rfl, rfl, rfl, rfl, -⟩ := hg'.form); clear hg'; have hn6 := hnY.chg hx6 (by simpa using hne); (obtain ⟨⟨n0, g0⟩, ⟨n1, g1⟩, ⟨n2, g2⟩, ⟨n3, g3⟩⟩ := hn6.cells4); have hnl6 := hn6.lt)
    refine fin4_ret (hqY.trans hx6) hlt hc6 hn6 (fun W2 r0 r1 r2 r3 => by simp [results, Try.results63, go_sem, r0, r1, r2, r3]) rfl fun W2 k1 k2 k3 => ⟨k2, ?_⟩
    rw [HE.out]
    exact ⟨k1, _, rfl, _, _, _, _, rfl, Dat.Fs.mono (Dat.Fs.chg hg k3 (fun g hg => by simp; omega)) fun g hg _ => (by omega)⟩
set_option maxHeartbeats 8000000 in
set_option maxRecDepth 100000 in
theorem unit_some {cb : Nat} {l : List Tok} (hl : l.length ≤ 1073741824) (hnel : 0 < l.length) {n : Nat} (hU : UnitOK cb l n) {ks : List Tok} (hkn : ks.length ≤ n + 1) {w : World} (h : Cur cb l w ks) (h1 : takeS sNot ks = none) (h2 : takeS sAll ks = none) {r : List Tok} (h3 : takeS sSome ks = some r) :
    Calls Try.prog 63 #[.pointer (some ⟨cb, 0, none⟩)] w (RdPost isFm' cb l w (rUnit ks)) := by
  have HE := Lib.hid (show rUnit ks = boundStep rUnit 12 r by rw [rUnit_eq]; unfold unitStep; rw [h1, h2, h3])
  have HT1 := Lib.hid (fun w' (h : Cur cb l w' ks) => take_no hl h h1)
  simp only [sNot] at HT1
  have HT2 := Lib.hid (fun w' (h : Cur cb l w' ks) => take_no hl h h2)
  simp only [sAll] at HT2
  have HT3 := Lib.hid (fun w' (h : Cur cb l w' ks) => take_yes hl h h3)
  simp only [sSome] at HT3
  have hrl := takeS_lt h3
  clear h1 h2 h3
  have HC := Lib.hid h
  have hlt := h.lt
  have hne : w.heap.size ≠ cb := by omega
  clear h
  obtain ⟨W, hW⟩ : ∃ W, W = w.alloc (.cells #[.int .i64 0, .slice none 0 0, .slice none 0 0, .slice none 0 0] 27) := ⟨_, rfl⟩
  have hx0 : Ext w W := by rw [hW]; exact ext_alloc _ _
  have hnW : Own W w.heap.size [.int .i64 0, .slice none 0 0, .slice none 0 0, .slice none 0 0] := by rw [hW]; exact own4 w _ _ _ _ _
  go_enter Try.func63, Try.ntmps63
  go_upto_region 6 with (first | (rw [← hW]; clear hW; go_at_call 64; with_reducible refine (HT1.out _ (HC.out.ext hx0)).mono ?_; rintro e w1 ⟨rfl, hx1'⟩; have hx1 := hx0.trans hx1') | (go_at_call 64; with_reducible refine (HT2.out _ (HC.out.ext hx1)).mono ?_; rintro e w2 ⟨rfl, hx2'⟩; have hx2 := hx1.trans hx2') | (go_at_call 64; with_reducible refine (HT3.out _ (HC.out.ext hx2)).mono ?_; rintro e w3 ⟨rfl, hcY, hx3'⟩; have hqY := Chg.trans (Chg.of_ext hx2) hx3'))
  have hnY := ((hnW.ext ((hx1').trans hx2')).chg hx3' (by simpa using hne))
  have hnl := hnY.lt
  generalize w3 = Y at *
  clear HC HT1 HT2 HT3 hnW
  have HX := Lib.hid (bound_any hl hnel hU (show r.length ≤ n by omega) hcY 12 (by decide) (by decide))
  unfold RdPost at HX
  cases hk : boundStep rUnit 12 r with
  | bad r2 =>
    rw [hk] at HX HE
    clear hk
    go_wp2_with (go_at_call 90; refine (HX.out).mono ?_; rintro e w6 ⟨hx6, rfl⟩)
    exact ⟨rfl, hqY.trans hx6, (by rw [HE.out])⟩
  | ok g r2 =>
    rw [hk] at HX HE
    clear hk
    go_wp2_with (go_at_call 90; refine (HX.out).mono ?_; rintro e w6 ⟨hx6, hc6, v, rfl, xa, xb, xc, xd, rfl, hg⟩; (have hg' := hg); (obtain ⟨d1, e1, d2, e2, d3, e3, rfl, rfl, rfl, rfl, -⟩ := hg'.form); clear hg'; have hn6 := hnY.chg hx6 (by simpa using hne); (obtain ⟨⟨n0, g0⟩, ⟨n1, g1⟩, ⟨n2, g2⟩, ⟨n3, g3⟩⟩ := hn6.cells4); have hnl6 := hn6.lt)
    refine fin4_ret (hqY.trans hx6) hlt hc6 hn6 (fun W2 r0 r1 r2 r3 => by simp [results, Try.results63, go_sem, r0, r1, r2, r3]) rfl fun W2 k1 k2 k3 => ⟨k2, ?_⟩
    rw [HE.out]
    exact ⟨k1, _, rfl, _, _, _, _, rfl, Dat.Fs.mono (Dat.Fs.chg hg k3 (fun g hg => by simp; omega)) fun g hg _ => (by omega)⟩
set_option maxHeartbeats 8000000 in
set_option maxRecDepth 100000 in
theorem unit_par {cb : Nat} {l : List Tok} (hl : l.length ≤ 1073741824) (hnel : 0 < l.length) {n : Nat} (hU : UnitOK cb l n) {ks : List Tok} (hkn : ks.length ≤ n + 1) {w : World} (h : Cur cb l w ks) (h1 : takeS sNot ks = none) (h2 : takeS sAll ks = none) (h3 : takeS sSome ks = none) {r : List Tok} (h4 : takeS sLpar ks = some r) :
    Calls Try.prog 63 #[.pointer (some ⟨cb, 0, none⟩)] w (RdPost isFm' cb l w (rUnit ks)) := by
  have HE := Lib.hid (show rUnit ks = (formStep rUnit r).bind fun f r' => (mustS sRpar r').map fun _ => f by rw [rUnit_eq]; unfold unitStep; rw [h1, h2, h3, h4])
  have HT1 := Lib.hid (fun w' (h : Cur cb l w' ks) => take_no hl h h1)
  simp only [sNot] at HT1
  have HT2 := Lib.hid (fun w' (h : Cur cb l w' ks) => take_no hl h h2)
  simp only [sAll] at HT2
  have HT3 := Lib.hid (fun w' (h : Cur cb l w' ks) => take_no hl h h3)
  simp only [sSome] at HT3
  have HT4 := Lib.hid (fun w' (h : Cur cb l w' ks) => take_yes hl h h4)
  simp only [sLpar] at HT4
  have hrl := takeS_lt h4
  clear h1 h2 h3 h4
  have HC := Lib.hid h
  have hlt := h.lt
  have hne : w.heap.size ≠ cb := by omega
  clear h
  obtain ⟨W, hW⟩ : ∃ W, W = w.alloc (.cells #[.int .i64 0, .slice none 0 0, .slice none 0 0, .slice none 0 0] 27) := ⟨_, rfl⟩
  have hx0 : Ext w W := by rw [hW]; exact ext_alloc _ _
  have hnW : Own W w.heap.size [.int .i64 0, .slice none 0 0, .slice none 0 0, .slice none 0 0] := by rw [hW]; exact own4 w _ _ _ _ _
  go_enter Try.func63, Try.ntmps63
  go_upto_region 8 with (first | (rw [← hW]; clear hW; go_at_call 64; with_reducible refine (HT1.out _ (HC.out.ext hx0)).mono ?_; rintro e w1 ⟨rfl, hx1'⟩; have hx1 := hx0.trans hx1') | (go_at_call 64; with_reducible refine (HT2.out _ (HC.out.ext hx1)).mono ?_; rintro e w2 ⟨rfl, hx2'⟩; have hx2 := hx1.trans hx2') | (go_at_call 64; with_reducible refine (HT3.out _ (HC.out.ext hx2)).mono ?_; rintro e w3 ⟨rfl, hx3'⟩; have hx3 := hx2.trans hx3') | (go_at_call 64; with_reducible refine (HT4.out _ (HC.out.ext hx3)).mono ?_; rintro e w4 ⟨rfl, hcY, hx4'⟩; have hqY := Chg.trans (Chg.of_ext hx3) hx4'))
  have hnY := ((hnW.ext (((hx1').trans hx2').trans hx3')).chg hx4' (by simpa using hne))
  have hnl := hnY.lt
  generalize w4 = Y at *
  clear HC HT1 HT2 HT3 HT4 hnW
  have HX := Lib.hid (form_any hl hU (show r.length ≤ n by omega) hcY)
  unfold RdPost at HX
  cases hk : formStep rUnit r with
  | bad r2 =>
    rw [hk] at HX HE
    clear hk
    go_wp2_with (go_at_call 41; refine (HX.out).mono ?_; rintro e w6 ⟨hx6, rfl⟩)
    exact ⟨rfl, hqY.trans hx6, (by rw [HE.out]; rfl)⟩
  | ok g r2 =>
    rw [hk] at HX HE
    simp only [Rd.bind_ok] at HE
    clear hk
    cases hm : mustS sRpar r2 with
    | bad r3 =>
      have HM := Lib.hid (fun w' (h : Cur cb l w' r2) => must_no hl hnel h hm)
      rw [hm] at HE
      clear hm
      simp only [sRpar] at HM
      go_wp2_with (first | (go_at_call 41; refine (HX.out).mono ?_; rintro e w6 ⟨hx6, hc6, v, rfl, xa, xb, xc, xd, rfl, hg⟩; (have hg' := hg); (obtain ⟨d1, e1, d2, e2, d3, e3, rfl, rfl, rfl, rfl, -⟩ := hg'.form); clear hg') | (go_at_call 72; refine (HM.out _ (hc6.ext (ext_alloc _ _))).mono ?_; rintro e w7 ⟨rfl, hx7⟩))
      exact ⟨rfl, (hqY.trans hx6).trans (Chg.of_ext ((ext_alloc _ _).trans hx7)), (by rw [HE.out]; rfl)⟩
    | ok u r3 =>
      have HM := Lib.hid (fun w' (h : Cur cb l w' r2) => must_yes hl h hm)
      rw [hm] at HE
      clear hm
      simp only [sRpar] at HM
      go_wp2_with (first | (go_at_call 41; refine (HX.out).mono ?_; rintro e w6 ⟨hx6, hc6, v, rfl, xa, xb, xc, xd, rfl, hg⟩; (have hg' := hg); (obtain ⟨d1, e1, d2, e2, d3, e3, rfl, rfl, rfl, rfl, -⟩ := hg'.form); clear hg'; have hn6 := hnY.chg hx6 (by simpa using hne); have hb6 := own4 w6 (.int .i64 g.op) (.slice d1 g.vars.length e1) (.slice d2 g.terms.length e2) (.slice d3 g.args.length e3) 27; have hnl6 := hn6.lt) | (go_at_call 72; refine (HM.out _ (hc6.ext (ext_alloc _ _))).mono ?_; rintro e w7 ⟨rfl, hc7, hx7⟩; have hn7 := (hn6.ext (ext_alloc _ _)).chg hx7 (by simpa using hne); have hb7 := hb6.chg hx7 (by simp; omega); (obtain ⟨⟨n0, g0⟩, ⟨n1, g1⟩, ⟨n2, g2⟩, ⟨n3, g3⟩⟩ := hn7.cells4); (obtain ⟨⟨m0, -⟩, ⟨m1, -⟩, ⟨m2, -⟩, ⟨m3, -⟩⟩ := hb7.cells4); have hnl7 := hn7.lt))
      refine fin4_ret (((hqY.trans hx6).alloc _).trans hx7) hlt hc7 hn7 (fun W2 r0 r1 r2 r3 => by simp [results, Try.results63, go_sem, r0, r1, r2, r3]) rfl fun W2 k1 k2 k3 => ⟨k2, ?_⟩
      rw [HE.out]
      refine ⟨k1, _, rfl, _, _, _, _, rfl, ?_⟩
      have hcl := hqY.size
      exact Dat.Fs.mono (Dat.Fs.chg (Dat.Fs.chg (Dat.Fs.ext hg (ext_alloc _ _)) hx7 (fun g hg => by simp; omega)) k3 (fun g hg => by simp; omega)) fun g hg _ => (by omega)
set_option maxHeartbeats 8000000 in
set_option maxRecDepth 100000 in
theorem unit_atom {cb : Nat} {l : List Tok} (hl : l.length ≤ 1073741824) (hnel : 0 < l.length) {ks : List Tok} {w : World} (h : Cur cb l w ks) (h1 : takeS sNot ks = none) (h2 : takeS sAll ks = none) (h3 : takeS sSome ks = none) (h4 : takeS sLpar ks = none) :
    Calls Try.prog 63 #[.pointer (some ⟨cb, 0, none⟩)] w (RdPost isFm' cb l w (rUnit ks)) := by
  have HE := Lib.hid (show rUnit ks = rAtomic ks by rw [rUnit_eq]; unfold unitStep; rw [h1, h2, h3, h4])
  have HT1 := Lib.hid (fun w' (h : Cur cb l w' ks) => take_no hl h h1)
  simp only [sNot] at HT1
  have HT2 := Lib.hid (fun w' (h : Cur cb l w' ks) => take_no hl h h2)
  simp only [sAll] at HT2
  have HT3 := Lib.hid (fun w' (h : Cur cb l w' ks) => take_no hl h h3)
  simp only [sSome] at HT3
  have HT4 := Lib.hid (fun w' (h : Cur cb l w' ks) => take_no hl h h4)
  simp only [sLpar] at HT4
  clear h1 h2 h3 h4
  have HC := Lib.hid h
  have hlt := h.lt
  have hne : w.heap.size ≠ cb := by omega
  clear h
  obtain ⟨W, hW⟩ : ∃ W, W = w.alloc (.cells #[.int .i64 0, .slice none 0 0, .slice none 0 0, .slice none 0 0] 27) := ⟨_, rfl⟩
  have hx0 : Ext w W := by rw [hW]; exact ext_alloc _ _
  have hnW : Own W w.heap.size [.int .i64 0, .slice none 0 0, .slice none 0 0, .slice none 0 0] := by rw [hW]; exact own4 w _ _ _ _ _
  go_enter Try.func63, Try.ntmps63
  go_upto_region 11 with (first | (rw [← hW]; clear hW; go_at_call 64; with_reducible refine (HT1.out _ (HC.out.ext hx0)).mono ?_; rintro e w1 ⟨rfl, hx1'⟩; have hx1 := hx0.trans hx1') | (go_at_call 64; with_reducible refine (HT2.out _ (HC.out.ext hx1)).mono ?_; rintro e w2 ⟨rfl, hx2'⟩; have hx2 := hx1.trans hx2') | (go_at_call 64; with_reducible refine (HT3.out _ (HC.out.ext hx2)).mono ?_; rintro e w3 ⟨rfl, hx3'⟩; have hx3 := hx2.trans hx3') | (go_at_call 64; with_reducible refine (HT4.out _ (HC.out.ext hx3)).mono ?_; rintro e w4 ⟨rfl, hx4'⟩; have hx4 := hx3.trans hx4'))
  have hnY := hnW.ext ((((hx1').trans hx2').trans hx3').trans hx4')
  have hnl := hnY.lt
  have hcY := HC.out.ext hx4
  have hqY : Chg [cb] w w4 := Chg.of_ext hx4
  generalize w4 = Y at *
  clear HC HT1 HT2 HT3 HT4 hnW
  have HX := Lib.hid (atomic_any hl hnel hcY)
  unfold RdPost at HX
  cases hk : rAtomic ks with
  | bad r2 =>
    rw [hk] at HX HE
    clear hk
    go_wp2_with (go_at_call 91; refine (HX.out).mono ?_; rintro e w6 ⟨hx6, rfl⟩)
    exact ⟨rfl, hqY.trans hx6, (by rw [HE.out])⟩
  | ok g r2 =>
    rw [hk] at HX HE
    clear hk
    go_wp2_with (go_at_call 91; refine (HX.out).mono ?_; rintro e w6 ⟨hx6, hc6, v, rfl, xa, xb, xc, xd, rfl, hg⟩; (have hg' := hg); (obtain ⟨d1, e1, d2, e2, d3, e3, rfl, rfl, rfl, rfl, -⟩ := hg'.form); clear hg'; have hn6 := hnY.chg hx6 (by simpa using hne); (obtain ⟨⟨n0, g0⟩, ⟨n1, g1⟩, ⟨n2, g2⟩, ⟨n3, g3⟩⟩ := hn6.cells4); have hnl6 := hn6.lt)
    refine fin4_ret (hqY.trans hx6) hlt hc6 hn6 (fun W2 r0 r1 r2 r3 => by simp [results, Try.results63, go_sem, r0, r1, r2, r3]) rfl fun W2 k1 k2 k3 => ⟨k2, ?_⟩
    rw [HE.out]
    exact ⟨k1, _, rfl, _, _, _, _, rfl, Dat.Fs.mono (Dat.Fs.chg hg k3 (fun g hg => by simp; omega)) fun g hg _ => (by omega)⟩
theorem unit_step {cb : Nat} {l : List Tok} (hl : l.length ≤ 1073741824) (hnel : 0 < l.length) {n : Nat} (hU : UnitOK cb l n) : UnitOK cb l (n + 1) := fun ks hk w h => by
  cases h1 : takeS sNot ks with
  | some r => exact unit_not hl hnel hU hk h h1
  | none => cases h2 : takeS sAll ks with
    | some r => exact unit_all hl hnel hU hk h h1 h2
    | none => cases h3 : takeS sSome ks with
      | some r => exact unit_some hl hnel hU hk h h1 h2 h3
      | none => cases h4 : takeS sLpar ks with
        | some r => exact unit_par hl hnel hU hk h h1 h2 h3 h4
        | none => exact unit_atom hl hnel h h1 h2 h3 h4
theorem unit_any {cb : Nat} {l : List Tok} (hl : l.length ≤ 1073741824) (hnel : 0 < l.length) : ∀ n, UnitOK cb l n
  | 0 => fun ks hk w h => by
    have : ks = [] := List.eq_nil_of_length_eq_zero (by omega)
    subst this
    exact unit_atom hl hnel h rfl rfl rfl rfl
  | n + 1 => unit_step hl hnel (unit_any hl hnel n)
/-- a formula is read -/
theorem formula_any {cb : Nat} {l : List Tok} (hl : l.length ≤ 1073741824) (hnel : 0 < l.length) {ks : List Tok} {w : World} (h : Cur cb l w ks) :
    Calls Try.prog 41 #[.pointer (some ⟨cb, 0, none⟩)] w (RdPost isFm' cb l w (rForm ks)) := form_any hl (unit_any hl hnel ks.length) (Nat.le_refl _) h
end Go.Proofs.Ytnclgkdpafhogaa
namespace Go.Proofs.Ytnclgkdpafhogaa
open Go.ChangeShapes Go.WideShapes Go.ChangeAt Go.RowKit
set_option maxRecDepth 100000 in
theorem caught_idle (np lp : Addr) (w : World) :
    CallsD Try.prog 40 #[.pointer (some np), .pointer (some lp)] .returning w fun e u' w' => e = .returned (.tuple #[]) ∧ u' = .returning ∧ w' = w := by
  refine callsD_of_wpS Try.func40 rfl fun c₀ cs hu => ?_
  simp only [Try.ntmps40, List.size_toArray, List.length_cons, List.length_nil, Nat.reduceAdd, Nat.reduceSub, Array.replicate_succ, Array.replicate_zero, List.push_toArray, List.append_toArray, List.nil_append, List.cons_append]
  apply wpS_seq
  apply wpS_region
  simp [wpOpsS, go_sem, recoverD, hu, Exit.thenS]
  refine wpS_of_wp (wp_mono (Q := bodyPost Try.prog Try.f40 fun e w' => e = .returned (.tuple #[]) ∧ w' = w) ?_ ?_)
  · clear hu
    go_wp2
    go_returns
    exact ⟨rfl, rfl⟩
  · intro e a' w' h
    cases e with
    | normal => obtain ⟨hd, v, hr, h1, h2⟩ := h; injection h1 with h1; exact ⟨hd, .returning, by rw [← hu], v, hr, by rw [h1], rfl, h2⟩
    | ret => obtain ⟨hd, v, hr, h1, h2⟩ := h; injection h1 with h1; exact ⟨hd, .returning, by rw [← hu], v, hr, by rw [h1], rfl, h2⟩
    | exit i => exact h.elim
    | goto t => exact h.elim
    | panic ch => obtain ⟨_, h1, _⟩ := h; cases h1
    | outgrown => obtain ⟨h1, _⟩ := h; cases h1
set_option maxRecDepth 100000 in
theorem assert_wrong (x : Value) (w : World) : (Instr.typeAssert (.iface 115 x) 20 115 true).run Try.prog w = .ok (.tuple #[x, .bool true]) w := by kernel_rfl
set_option maxRecDepth 100000 in
theorem caught_wrong (nb lb n : Nat) (x : Int) (older : List PanicEntry) (w : World) (hn : Own w nb [.int .i64 x]) (hl : Own w lb [.bool false]) (hne : nb ≠ lb) :
    CallsD Try.prog 40 #[.pointer (some ⟨nb, 0, none⟩), .pointer (some ⟨lb, 0, none⟩)] (.panicking (wrongV n :: older)) w fun e u' w' =>
      e = .returned (.tuple #[]) ∧ u' = .panicking ({ wrongV n with recovered := true } :: older) ∧ w' = ((w.setCell ⟨nb, 0, none⟩ (.int .i64 n)).setCell ⟨lb, 0, none⟩ (.bool true)).alloc (.cells #[.int .i64 n] 115) := by
  have hnl := hn.lt
  have hll := hl.lt
  obtain ⟨c0, f0⟩ := hn 0 _ rfl
  obtain ⟨c1, f1⟩ := hl 0 _ rfl
  have hne' : lb ≠ nb := Ne.symm hne
  have hta := assert_wrong
  unfold wrongV
  refine callsD_of_wpS Try.func40 rfl fun c₀ cs hu => ?_
  simp only [Try.ntmps40, List.size_toArray, List.length_cons, List.length_nil, Nat.reduceAdd, Nat.reduceSub, Array.replicate_succ, Array.replicate_zero, List.push_toArray, List.append_toArray, List.nil_append, List.cons_append]
  apply wpS_seq
  apply wpS_region
  simp [wpOpsS, go_sem, recoverD, hu, Exit.thenS]
  refine wpS_of_wp (wp_mono (Q := bodyPost Try.prog Try.f40 fun e w' => e = .returned (.tuple #[]) ∧ w' = ((w.setCell ⟨nb, 0, none⟩ (.int .i64 n)).setCell ⟨lb, 0, none⟩ (.bool true)).alloc (.cells #[.int .i64 n] 115)) ?_ ?_)
  · clear hu
    go_wp2
    go_returns
    exact ⟨rfl, rfl⟩
  · intro e a' w' h
    cases e with
    | normal => obtain ⟨hd, v, hr, h1, h2⟩ := h; injection h1 with h1; exact ⟨hd, _, rfl, v, hr, by rw [h1], rfl, h2⟩
    | ret => obtain ⟨hd, v, hr, h1, h2⟩ := h; injection h1 with h1; exact ⟨hd, _, rfl, v, hr, by rw [h1], rfl, h2⟩
    | exit i => exact h.elim
    | goto t => exact h.elim
    | panic ch => obtain ⟨_, h1, _⟩ := h; cases h1
    | outgrown => obtain ⟨h1, _⟩ := h; cases h1
/-- what the function that reads and catches leaves: the formula, or the place of the token that can't stand there -/
def CatchPost (cb fb nb lb : Nat) (l : List Tok) (w : World) (rd : Rd Fm) (e : Ending) (w' : World) : Prop :=
  e = .returned (.tuple #[]) ∧ match rd with
  | .ok x r => Chg [cb, fb] w w' ∧ (∃ x0 x1 x2 x3, Own w' fb [x0, x1, x2, x3] ∧ IsFm (fun g => w.heap.size ≤ g) w' x0 x1 x2 x3 x) ∧ ∃ a c, Own w' cb [.slice a l.length c, .int .i64 (l.length - r.length : Nat)]
  | .bad r => Chg [cb, nb, lb] w w' ∧ Own w' nb [.int .i64 (badAt l r)] ∧ Own w' lb [.bool true]
set_option maxHeartbeats 1000000 in
set_option maxRecDepth 100000 in
theorem catch_any {cb : Nat} {l : List Tok} (hl : l.length ≤ 1073741824) (hnel : 0 < l.length) {ks : List Tok} {w : World} (h : Cur cb l w ks) {fb nb lb pb : Nat} {z0 z1 z2 z3 : Value}
    (hf : Own w fb [z0, z1, z2, z3]) (hn : Own w nb [.int .i64 0]) (hlb : Own w lb [.bool false]) (hp : w.cell? ⟨pb, 0, none⟩ = some (.pointer (some ⟨cb, 0, none⟩))) (h1 : fb ≠ cb) (h2 : nb ≠ cb) (h3 : lb ≠ cb) (h5 : nb ≠ lb) (h6 : fb < w.heap.size) :
    Calls Try.prog 39 #[.pointer (some ⟨nb, 0, none⟩), .pointer (some ⟨lb, 0, none⟩), .pointer (some ⟨pb, 0, none⟩), .pointer (some ⟨fb, 0, none⟩)] w (CatchPost cb fb nb lb l w (rForm ks)) := by
  have HF := Lib.hid (formula_any hl hnel h)
  unfold RdPost at HF
  cases hk : rForm ks with
  | bad r =>
    rw [hk] at HF
    clear hk
    go_enter_defers Try.func39, Try.ntmps39
    go_wp2_with (go_at_call 41; refine (HF.out).mono ?_; rintro e w1 ⟨hx1, rfl⟩)
    refine leaves_cons (f := 40) (args := #[.pointer (some ⟨nb, 0, none⟩), .pointer (some ⟨lb, 0, none⟩)]) (by simp) (by simp [go_sem]) ?_
    refine (caught_wrong nb lb (badAt l r) 0 [] w1 (hn.chg hx1 (by simpa using h2)) (hlb.chg hx1 (by simpa using h3)) h5).mono ?_
    rintro e u' w2 ⟨rfl, rfl, rfl⟩
    simp [Leaves, settle, results, Try.results39, go_sem]
    have hn1 := (hn.chg hx1 (by simpa using h2)).set (i := 0) (by simp) (.int .i64 (badAt l r))
    have hn2 := (hn1.chg ((Chg.refl [lb] _).setCell (p := ⟨lb, 0, none⟩) (.bool true) (.inl (by simp))) (by simpa using h5)).ext (ext_alloc _ (.cells #[.int .i64 (badAt l r)] 115))
    have hl1 := ((hlb.chg hx1 (by simpa using h3)).chg ((Chg.refl [nb] w1).setCell (p := ⟨nb, 0, none⟩) (.int .i64 (badAt l r)) (.inl (by simp))) (by simpa using Ne.symm h5)).set (i := 0) (by simp) (.bool true)
    exact ⟨rfl, (((hx1.mono (T := [cb, nb, lb]) (by simp)).setCell _ (.inl (by simp))).setCell _ (.inl (by simp))).alloc _, hn2, hl1.ext (ext_alloc _ _)⟩
  | ok x r =>
    rw [hk] at HF
    clear hk
    go_enter_defers Try.func39, Try.ntmps39
    go_wp2_with (go_at_call 41; refine (HF.out).mono ?_; rintro e w1 ⟨hx1, hc1, v, rfl, xa, xb, xc, xd, rfl, hv⟩; have hf1 := hf.chg hx1 (by simpa using h1); (obtain ⟨⟨n0, g0⟩, ⟨n1, g1⟩, ⟨n2, g2⟩, ⟨n3, g3⟩⟩ := hf1.cells4); (have hv' := hv); (obtain ⟨d1, e1, d2, e2, d3, e3, rfl, rfl, rfl, rfl, -⟩ := hv'.form); clear hv')
    refine leaves_cons (f := 40) (args := #[.pointer (some ⟨nb, 0, none⟩), .pointer (some ⟨lb, 0, none⟩)]) (by simp) (by simp [go_sem]) ?_
    refine (caught_idle ⟨nb, 0, none⟩ ⟨lb, 0, none⟩ _).mono ?_
    rintro e u' w2 ⟨rfl, rfl, rfl⟩
    simp [Leaves, settle, results, Try.results39, go_sem]
    obtain ⟨hsf, a, c, hcw, -, -⟩ := hc1
    have hch := chg_set4 w1 fb (.int .i64 x.op) (.slice d1 x.vars.length e1) (.slice d2 x.terms.length e2) (.slice d3 x.args.length e3)
    exact ⟨rfl, (hx1.mono (by simp)).trans (hch.mono (by simp)), ⟨_, _, _, _, own_set4 hf1 _ _ _ _, Dat.Fs.chg hv hch (fun g hg => by simp; omega)⟩, a, c, hcw.chg hch (by simpa using Ne.symm h1)⟩
end Go.Proofs.Ytnclgkdpafhogaa
