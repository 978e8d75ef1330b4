/- The wake-up of law 31 answers true. No condition. -/
import Derived.Test.YtapoedcmhdlpfaaQ24
import Derived.Test.YtapoedcmhdlpfaaQ22
namespace Go.Proofs.Ytapoedcmhdlpfaa
open Go.ChangeShapes Go.WideShapes Go.ChangeAt Go.RowKit
attribute [local go_sem] fw_round fw_depth fw_fn Oper.semAt_some
set_option maxHeartbeats 1000000 in
set_option maxRecDepth 100000 in
theorem mWorlds_any (w : World) (b o n : Nat) (hsy : IsSyms w (some ⟨b, o, none⟩) sig31) : Calls Try.prog 16 #[.agg #[.slice (some ⟨b, o, none⟩) 4 n], .int .i64 2] w fun e w' =>
    (∃ ob zb sb sn, e = .returned (.func (.func 39) #[] #[.pointer (some ⟨ob, 0, none⟩), .pointer (some ⟨zb, 0, none⟩)]) ∧ w'.cell? ⟨ob, 0, none⟩ = some (.slice (some ⟨sb, 0, none⟩) 4 sn) ∧ 4 ≤ sn ∧ sn ≤ 9223372036854775807 ∧ w.heap.size ≤ sb ∧ IsSyms w' (some ⟨sb, 0, none⟩) sig31 ∧ w'.cell? ⟨zb, 0, none⟩ = some (.int .i64 2)) ∧ Ext w w' := by
  obtain ⟨W, hW⟩ : ∃ W, W = (w.alloc (.cells #[.slice (some ⟨b, o, none⟩) 4 n] 24)).alloc (.cells #[.int .i64 2] 3) := ⟨_, rfl⟩
  have hx : Ext w W := by rw [hW]; go_grown
  have c0 : W.cell? ⟨w.heap.size, 0, none⟩ = some (.slice (some ⟨b, o, none⟩) 4 n) := by rw [hW]; go_simp
  have c1 : W.cell? ⟨w.heap.size + 1, 0, none⟩ = some (.int .i64 2) := by rw [hW]; go_simp
  have HC := Lib.hid (cloneSy_any W b o n (hsy.ext hx))
  have c0' := c0
  rw [hW] at c0'
  have HW := Lib.hid hW
  clear hsy hW
  go_enter Try.func16, Try.ntmps16
  go_wp2_with (go_at_call 38; rw [← HW.out]; clear c0'; refine (HC.out).mono ?_; rintro e w2 ⟨⟨g, sn, rfl, hn4, hn63, hg, hsy2⟩, hx2⟩; (have HF := Lib.hid (And.intro hn4 (And.intro hn63 (And.intro hg hsy2)))); clear hn4 hn63 hg hsy2; replace c1 := hx2.cell c1)
  have hx3 := ext_alloc w2 (.cells #[.slice (some ⟨g, 0, none⟩) 4 sn] 24)
  have d0 : (w2.alloc (.cells #[.slice (some ⟨g, 0, none⟩) 4 sn] 24)).cell? ⟨w2.heap.size, 0, none⟩ = some (.slice (some ⟨g, 0, none⟩) 4 sn) := by go_simp
  go_ret
  exact ⟨⟨_, _, g, sn, rfl, d0, HF.out.1, HF.out.2.1, by have h1 := hx.size; have h2 := HF.out.2.2.1; omega, HF.out.2.2.2.ext hx3, hx3.cell c1⟩, hx.trans (hx2.trans hx3)⟩
theorem leaf_isTm (w : World) (n : Int) (h : -9223372036854775808 ≤ n ∧ n ≤ 9223372036854775807) : IsTm w (.int .i64 n) (.slice none 0 0) (.mk n []) := by
  simp only [IsTm, IsTms]; exact ⟨trivial, h.1, h.2, none, 0, rfl, Nat.le_refl _, trivial⟩
theorem tms_one {w : World} {B : Nat} {x s : Value} {t : Tm} (h0 : w.cell? ⟨B, 0, none⟩ = some x) (h1 : w.cell? ⟨B, 1, none⟩ = some s) (ht : IsTm w x s t) : IsTms w (some ⟨B, 0, none⟩) [t] := by
  simp only [IsTms]; exact ⟨B, 0, x, s, rfl, h0, h1, ht, trivial⟩
theorem tm_one {w : World} {B : Nat} {z : Int} {t : Tm} (hz : -9223372036854775808 ≤ z ∧ z ≤ 9223372036854775807) (h : IsTms w (some ⟨B, 0, none⟩) [t]) : IsTm w (.int .i64 z) (.slice (some ⟨B, 0, none⟩) 1 1) (.mk z [t]) := by
  simp only [IsTm]; exact ⟨trivial, hz.1, hz.2, _, 1, rfl, Nat.le_refl _, h⟩
theorem of_tm (z : Int) (hz : -9223372036854775808 ≤ z ∧ z ≤ 9223372036854775807) {t : Tm} {x s : Value} (w : World) (B : Nat) (h0 : w.cell? ⟨B, 0, none⟩ = some x) (h1 : w.cell? ⟨B, 1, none⟩ = some s) (ht : IsTm w x s t) :
    Calls Try.prog 15 #[.int .i64 z, .slice (some ⟨B, 0, none⟩) 1 1] w fun e w' => (e = .returned (.agg #[.int .i64 z, .slice (some ⟨B, 0, none⟩) 1 1]) ∧ IsTm w' (.int .i64 z) (.slice (some ⟨B, 0, none⟩) 1 1) (.mk z [t])) ∧ Ext w w' :=
  (of_any 1 1 1 z _ w).mono fun _e _w' h => ⟨⟨h.1, (tm_one hz (tms_one h0 h1 ht)).ext h.2⟩, h.2⟩
theorem ints_one {w : World} {B : Nat} {z : Int} (hz : -9223372036854775808 ≤ z ∧ z ≤ 9223372036854775807) (h0 : w.cell? ⟨B, 0, none⟩ = some (.int .i64 z)) : IsInts w (some ⟨B, 0, none⟩) [z] := fun i hi => by
  have hi' : i < 1 := hi
  obtain rfl : i = 0 := by omega
  exact ⟨hz.1, hz.2, B, 0, rfl, h0⟩
theorem ints_two {w : World} {B : Nat} {y z : Int} (hy : -9223372036854775808 ≤ y ∧ y ≤ 9223372036854775807) (hz : -9223372036854775808 ≤ z ∧ z ≤ 9223372036854775807) (h0 : w.cell? ⟨B, 0, none⟩ = some (.int .i64 y)) (h1 : w.cell? ⟨B, 1, none⟩ = some (.int .i64 z)) : IsInts w (some ⟨B, 0, none⟩) [y, z] := fun i hi => by
  have hi' : i < 2 := hi
  have : i = 0 ∨ i = 1 := by omega
  rcases this with rfl | rfl
  · exact ⟨hy.1, hy.2, B, 0, rfl, h0⟩
  · exact ⟨hz.1, hz.2, B, 0, rfl, h1⟩
/-- between two rounds of the count -/
structure CJ (V0 : World) (kb : Nat) (W : World) (pre : List Nat) (S : List Nat) : Prop where
  hs : S = [kb]
  chg : Chg [kb] V0 W
  cell : W.cell? ⟨kb, 0, none⟩ = some (.int .i64 (pre.length : Nat))
  frz : W.frozen? ⟨kb, 0, none⟩ = false
theorem CJ.mv {V0 : World} {kb : Nat} {W W' : World} {pre : List Nat} {S T : List Nat} (h : CJ V0 kb W pre S) (hR : kb < V0.heap.size) (k : Chg T W W') (hT : ∀ i ∈ T, V0.heap.size ≤ i) : CJ V0 kb W' pre S :=
  ⟨h.hs, h.chg.past k hT, k.cell h.cell (fun hm => by have := hT _ hm; simp at this; omega), k.frozen h.cell (fun hm => by have := hT _ hm; simp at this; omega) h.frz⟩
theorem sized31a : ∀ x ∈ cl31a, x.sized := fun x hx => by
  simp only [cl31a, List.mem_singleton] at hx; subst hx; unfold Lt.sized; decide
theorem sized31b : ∀ x ∈ cl31b, x.sized := fun x hx => by
  simp only [cl31b, List.mem_singleton] at hx; subst hx; unfold Lt.sized; decide
theorem lits_one {w : World} {Q B : Nat} {t : Tm} (ht : IsTm w (.int .i64 3) (.slice (some ⟨B, 0, none⟩) 1 1) (.mk 3 [t])) (c0 : w.cell? ⟨Q, 0, none⟩ = some (.bool false)) (c1 : w.cell? ⟨Q, 1, none⟩ = some (.int .i64 3)) (c2 : w.cell? ⟨Q, 2, none⟩ = some (.slice (some ⟨B, 0, none⟩) 1 1)) (c3 : w.cell? ⟨Q, 3, none⟩ = some (.int .i64 0)) (c4 : w.cell? ⟨Q, 4, none⟩ = some (.slice none 0 0)) :
    IsLits w (some ⟨Q, 0, none⟩) [⟨false, .mk 3 [t], .mk 0 []⟩] := fun i hi => by
  have hi' : i < 1 := hi
  obtain rfl : i = 0 := by omega
  exact ⟨Q, 0, some ⟨B, 0, none⟩, 1, none, 0, rfl, c0, c1, c2, c3, c4, ht, leaf_isTm w 0 (by omega)⟩
set_option maxHeartbeats 8000000 in
set_option maxRecDepth 100000 in
theorem wakes31_any (w : World) : Calls Try.prog 6 #[] w fun e w' => e = .returned (.bool true) ∧ Ext w w' := by
  have HS := Lib.hid (small31_any w)
  have O1 := Lib.hid (fun (z : Int) (X : World) => of_any 0 0 0 z none X)
  have O2 := Lib.hid (fun (X : World) (B : Nat) h0 h1 => of_tm 2 (by omega) X B (x := .int .i64 (-1)) (s := .slice none 0 0) h0 h1 (leaf_isTm X (-1) (by omega)))
  have O3 := Lib.hid (fun (X : World) (B : Nat) (s : Value) (ht : IsTm X (.int .i64 2) s (.mk 2 [.mk (-1) []])) h0 h1 => of_tm 2 (by omega) X B (x := .int .i64 2) (s := s) h0 h1 ht)
  refine callsFw.1 (callsIn_of_wp_marks (n := 0) Try.func6 rfl trivial (wpIn_wide.2 ?_))
  simp only [Try.ntmps6, List.size_toArray, List.length_nil, Nat.reduceSub, Array.replicate_succ, Array.replicate_zero, List.push_toArray, List.append_toArray, List.nil_append, List.cons_append]
  go_wp2_with (go_at_call 14; refine (HS.out).mono ?_; rintro e w1 ⟨⟨a, b, rfl, hsy, hT⟩, hx1⟩)
  obtain ⟨W0, hW0⟩ : ∃ W0, W0 = (w1.alloc (.cells #[.slice a 4 4] 24)).alloc (.cells #[.int .i64 2, .slice b 4 4] 27) := ⟨_, rfl⟩
  have hx0 : Ext w1 W0 := by rw [hW0]; go_grown
  have k0 : W0.cell? ⟨w1.heap.size, 0, none⟩ = some (.slice a 4 4) := by rw [hW0]; go_simp
  have k1 : W0.cell? ⟨w1.heap.size + 1, 0, none⟩ = some (.int .i64 2) := by rw [hW0]; go_simp
  have k2 : W0.cell? ⟨w1.heap.size + 1, 1, none⟩ = some (.slice b 4 4) := by rw [hW0]; go_simp
  obtain ⟨p1, hp1⟩ : ∃ p1, p1 = w1.heap.size := ⟨_, rfl⟩
  obtain ⟨p2, hp2⟩ : ∃ p2, p2 = w1.heap.size + 1 := ⟨_, rfl⟩
  rw [← hW0]
  rw [← hp1] at k0
  rw [← hp2] at k1 k2
  rw [← hp2, ← hp1]
  clear hW0 hp1 hp2
  have hsy0 := hsy.ext hx0
  have hT0 := hT.ext hx0
  have T1 := Lib.hid (fun (X : World) (s : Value) (Q : Nat) (hX : Ext W0 X) (ht : IsTm X (.int .i64 2) s tm31) (hq : X.cell? ⟨Q, 0, none⟩ = some (.int .i64 1)) => by
    have h := mTerm_any sig31 (by decide) 2 tab31 (by decide) (by decide) tm31 (by decide) [1] (by decide) X a 4 (by decide) (by decide) (hsy0.ext hX) b 4 (hT0.ext hX) (.int .i64 2) s ht (some ⟨Q, 0, none⟩) 1 (ints_one (by omega) hq)
    rw [says31a] at h
    exact h)
  have hxw0 : Ext w W0 := hx1.trans hx0
  clear hsy hT hx1 hx0
  have T2 := Lib.hid (fun (X : World) (Q : Nat) (hX : Ext W0 X) (hq0 : X.cell? ⟨Q, 0, none⟩ = some (.int .i64 0)) (hq1 : X.cell? ⟨Q, 1, none⟩ = some (.int .i64 1)) => by
    have h := mTerm_any sig31 (by decide) 2 tab31 (by decide) (by decide) (.mk (-4) []) (by decide) [0, 1] (by decide) X a 4 (by decide) (by decide) (hsy0.ext hX) b 4 (hT0.ext hX) (.int .i64 (-4)) (.slice none 0 0) (leaf_isTm X (-4) (by omega)) (some ⟨Q, 0, none⟩) 2 (ints_two (by omega) (by omega) hq0 hq1)
    rw [says31b] at h
    exact h)
  have O4 := Lib.hid (fun (X : World) (B : Nat) h0 h1 => of_tm 2 (by omega) X B (x := .int .i64 1) (s := .slice none 0 0) h0 h1 (leaf_isTm X 1 (by omega)))
  have O5 := Lib.hid (fun (X : World) (B : Nat) (s : Value) (ht : IsTm X (.int .i64 2) s (.mk 2 [.mk 1 []])) h0 h1 => of_tm 3 (by omega) X B (x := .int .i64 2) (s := s) h0 h1 ht)
  have O6 := Lib.hid (fun (X : World) (B : Nat) h0 h1 => of_tm 3 (by omega) X B (x := .int .i64 (-1)) (s := .slice none 0 0) h0 h1 (leaf_isTm X (-1) (by omega)))
  have C1 := Lib.hid (fun (X : World) (Q B : Nat) (hX : Ext W0 X) (ht : IsTm X (.int .i64 3) (.slice (some ⟨B, 0, none⟩) 1 1) (.mk 3 [.mk 2 [.mk 1 []]])) c0 c1 c2 c3 c4 => by
    have h := mClause_any sig31 (by decide) 2 tab31 (by decide) (by decide) cl31a sized31a (by decide) X a 4 (by decide) (by decide) (hsy0.ext hX) b 4 (hT0.ext hX) (some ⟨Q, 0, none⟩) 1 (lits_one ht c0 c1 c2 c3 c4)
    rw [says31c] at h
    exact h)
  have C2 := Lib.hid (fun (X : World) (Q B : Nat) (hX : Ext W0 X) (ht : IsTm X (.int .i64 3) (.slice (some ⟨B, 0, none⟩) 1 1) (.mk 3 [.mk (-1) []])) c0 c1 c2 c3 c4 => by
    have h := mClause_any sig31 (by decide) 2 tab31 (by decide) (by decide) cl31b sized31b (by decide) X a 4 (by decide) (by decide) (hsy0.ext hX) b 4 (hT0.ext hX) (some ⟨Q, 0, none⟩) 1 (lits_one ht c0 c1 c2 c3 c4)
    rw [says31d] at h
    exact h)
  have M1 := Lib.hid (fun (X : World) (hX : Ext W0 X) => modCheck_any sig31 (by decide) 0 [] (by decide) (by decide) X a 4 (by decide) (by decide) (hsy0.ext hX) none 0 (fun i hi => absurd hi (by simp)))
  go_cut [3, 4] from 17 to 28 (fun x0 x1 wx => x0 = .int .i64 1 ∧ x1 = .int .i64 0 ∧ wx.cell? ⟨p1, 0, none⟩ = some (.slice a 4 4) ∧ wx.cell? ⟨p2, 0, none⟩ = some (.int .i64 2) ∧ wx.cell? ⟨p2, 1, none⟩ = some (.slice b 4 4) ∧ Ext W0 wx)
  case first =>
    have hA := Ext.drew (Below.refl W0.heap.size W0)
    go_region_held3 (fun w' => w'.cell? ⟨p1, 0, none⟩ = some (.slice a 4 4) ∧ w'.cell? ⟨p2, 0, none⟩ = some (.int .i64 2) ∧ w'.cell? ⟨p2, 1, none⟩ = some (.slice b 4 4) ∧ Ext W0 w')
      (((try go_split_ands); refine ⟨?_, ?_, ?_, ?_⟩ <;> first | (with_reducible assumption) | exact Ext.drew (by (with_reducible assumption)) | exact Ext.drew (Below.refl _ _) | exact Ext.trans (by (with_reducible assumption)) hw' | exact Ext.trans (by (with_reducible assumption)) (ext_alloc _ _) | (apply Ext.cell hw'; (with_reducible assumption)) | (apply Ext.cell (ext_alloc _ _); (with_reducible assumption)) | (go_keep; done)))
      ((first
        | (go_at_call 7; go_split_ands; refine (T1.out _ _ _ ?_ ?_ ?_).mono ?_; (focus (with_reducible assumption)); (focus (first | exact ht3 | exact ht3.ext (ext_alloc _ _))); (focus (first | (go_simp; done) | (apply Ext.cell hw3; go_simp; done) | (apply Ext.cell hw3; apply Ext.cell (ext_alloc _ _); apply Ext.cell hw2; go_simp; done) | (apply Ext.cell hw3; apply Ext.cell (ext_alloc _ _); apply Ext.cell hw2; apply Ext.cell (ext_alloc _ _); apply Ext.cell hw1; go_simp; done))); rintro e w' ⟨rfl, hw'⟩)
        | (go_at_call 15; with_reducible refine (O1.out _ _).mono ?_; rintro e w1 ⟨rfl, hw1⟩; have hw' := hw1)
        | (go_at_call 15; go_split_ands; refine (O3.out _ _ _ (ht2.ext (by first | exact ext_alloc _ _ | exact (ext_alloc _ _).trans (ext_alloc _ _))) ?_ ?_).mono ?_; (focus (go_simp; done)); (focus (go_simp; done)); rintro e w3 ⟨⟨rfl, ht3⟩, hw3⟩; have hw' := hw3)
        | (go_at_call 15; go_split_ands; refine (O2.out _ _ ?_ ?_).mono ?_; (focus (go_simp; done)); (focus (go_simp; done)); rintro e w2 ⟨⟨rfl, ht2⟩, hw2⟩; have hw' := hw2)))
    all_goals
      go_split_ands
      go_wp2_with fail
      go_meet
      exact ⟨rfl, rfl,  by (with_reducible assumption), by (with_reducible assumption), by (with_reducible assumption), by (with_reducible assumption)⟩
  case rest =>
  generalize wc = W17 at hcut ⊢
  obtain ⟨rfl, rfl,  k0, k1, k2, hE17⟩ := hcut
  go_upto_region 3 with fail
  go_cut [5, 6] from 29 to 36 (fun x0 x1 wx => x0 = .int .i64 0 ∧ x1 = .int .i64 4 ∧ wx.cell? ⟨p1, 0, none⟩ = some (.slice a 4 4) ∧ wx.cell? ⟨p2, 0, none⟩ = some (.int .i64 2) ∧ wx.cell? ⟨p2, 1, none⟩ = some (.slice b 4 4) ∧ Ext W0 wx)
  case first =>
    have hA := Ext.drew hE17
    go_region_held3 (fun w' => w'.cell? ⟨p1, 0, none⟩ = some (.slice a 4 4) ∧ w'.cell? ⟨p2, 0, none⟩ = some (.int .i64 2) ∧ w'.cell? ⟨p2, 1, none⟩ = some (.slice b 4 4) ∧ Ext W0 w')
      (((try go_split_ands); refine ⟨?_, ?_, ?_, ?_⟩ <;> first | (with_reducible assumption) | exact Ext.drew (by (with_reducible assumption)) | exact Ext.drew (Below.refl _ _) | exact Ext.trans (by (with_reducible assumption)) hw' | exact Ext.trans (by (with_reducible assumption)) (ext_alloc _ _) | (apply Ext.cell hw'; (with_reducible assumption)) | (apply Ext.cell (ext_alloc _ _); (with_reducible assumption)) | (go_keep; done)))
      ((first
        | (go_at_call 7; go_split_ands; refine (T2.out _ _ ?_ ?_ ?_).mono ?_; (focus (with_reducible assumption)); (focus (first | (go_simp; done) | (apply Ext.cell hw1; go_simp; done))); (focus (first | (go_simp; done) | (apply Ext.cell hw1; go_simp; done))); rintro e w' ⟨rfl, hw'⟩)
        | (go_at_call 15; with_reducible refine (O1.out _ _).mono ?_; rintro e w1 ⟨rfl, hw1⟩; have hw' := hw1)))
    all_goals
      go_split_ands
      go_wp2_with fail
      go_meet
      exact ⟨rfl, rfl,  by (with_reducible assumption), by (with_reducible assumption), by (with_reducible assumption), by (with_reducible assumption)⟩
  case rest =>
  generalize wc = W29 at hcut ⊢
  obtain ⟨rfl, rfl,  k0, k1, k2, hE29⟩ := hcut
  go_upto_region 4 with fail
  go_cut [7, 8] from 37 to 49 (fun x0 x1 wx => x0 = .bool true ∧ x1 = .int .i64 0 ∧ wx.cell? ⟨p1, 0, none⟩ = some (.slice a 4 4) ∧ wx.cell? ⟨p2, 0, none⟩ = some (.int .i64 2) ∧ wx.cell? ⟨p2, 1, none⟩ = some (.slice b 4 4) ∧ Ext W0 wx)
  case first =>
    have hA := Ext.drew hE29
    go_region_held3 (fun w' => w'.cell? ⟨p1, 0, none⟩ = some (.slice a 4 4) ∧ w'.cell? ⟨p2, 0, none⟩ = some (.int .i64 2) ∧ w'.cell? ⟨p2, 1, none⟩ = some (.slice b 4 4) ∧ Ext W0 w')
      (((try go_split_ands); refine ⟨?_, ?_, ?_, ?_⟩ <;> first | (with_reducible assumption) | exact Ext.drew (by (with_reducible assumption)) | exact Ext.drew (Below.refl _ _) | exact Ext.trans (by (with_reducible assumption)) hw' | exact Ext.trans (by (with_reducible assumption)) (ext_alloc _ _) | (apply Ext.cell hw'; (with_reducible assumption)) | (apply Ext.cell (ext_alloc _ _); (with_reducible assumption)) | (go_keep; done)))
      ((first
        | (go_at_call 9; go_split_ands; refine (C1.out _ _ _ ?_ (ht3.ext (ext_alloc _ _)) ?_ ?_ ?_ ?_ ?_).mono ?_; (focus (with_reducible assumption)); (focus (go_simp; done)); (focus (go_simp; done)); (focus (go_simp; done)); (focus (go_simp; done)); (focus (go_simp; done)); rintro e w' ⟨rfl, hw'⟩)
        | (go_at_call 15; with_reducible refine (O1.out _ _).mono ?_; rintro e w1 ⟨rfl, hw1⟩; have hw' := hw1)
        | (go_at_call 15; go_split_ands; refine (O5.out _ _ _ (ht2.ext (ext_alloc _ _)) ?_ ?_).mono ?_; (focus (go_simp; done)); (focus (go_simp; done)); rintro e w3 ⟨⟨rfl, ht3⟩, hw3⟩; have hw' := hw3)
        | (go_at_call 15; go_split_ands; refine (O4.out _ _ ?_ ?_).mono ?_; (focus (go_simp; done)); (focus (go_simp; done)); rintro e w2 ⟨⟨rfl, ht2⟩, hw2⟩; have hw' := hw2)))
    all_goals
      go_split_ands
      go_wp2_with fail
      go_meet
      exact ⟨rfl, rfl,  by (with_reducible assumption), by (with_reducible assumption), by (with_reducible assumption), by (with_reducible assumption)⟩
  case rest =>
  generalize wc = W37 at hcut ⊢
  obtain ⟨rfl, rfl,  k0, k1, k2, hE37⟩ := hcut
  go_upto_region 5 with fail
  go_cut [9, 10] from 50 to 60 (fun x0 x1 wx => x0 = .bool false ∧ x1 = .int .i64 0 ∧ wx.cell? ⟨p1, 0, none⟩ = some (.slice a 4 4) ∧ wx.cell? ⟨p2, 0, none⟩ = some (.int .i64 2) ∧ wx.cell? ⟨p2, 1, none⟩ = some (.slice b 4 4) ∧ Ext W0 wx)
  case first =>
    have hA := Ext.drew hE37
    go_region_held3 (fun w' => w'.cell? ⟨p1, 0, none⟩ = some (.slice a 4 4) ∧ w'.cell? ⟨p2, 0, none⟩ = some (.int .i64 2) ∧ w'.cell? ⟨p2, 1, none⟩ = some (.slice b 4 4) ∧ Ext W0 w')
      (((try go_split_ands); refine ⟨?_, ?_, ?_, ?_⟩ <;> first | (with_reducible assumption) | exact Ext.drew (by (with_reducible assumption)) | exact Ext.drew (Below.refl _ _) | exact Ext.trans (by (with_reducible assumption)) hw' | exact Ext.trans (by (with_reducible assumption)) (ext_alloc _ _) | (apply Ext.cell hw'; (with_reducible assumption)) | (apply Ext.cell (ext_alloc _ _); (with_reducible assumption)) | (go_keep; done)))
      ((first
        | (go_at_call 9; go_split_ands; refine (C2.out _ _ _ ?_ (ht2.ext (ext_alloc _ _)) ?_ ?_ ?_ ?_ ?_).mono ?_; (focus (with_reducible assumption)); (focus (go_simp; done)); (focus (go_simp; done)); (focus (go_simp; done)); (focus (go_simp; done)); (focus (go_simp; done)); rintro e w' ⟨rfl, hw'⟩)
        | (go_at_call 15; with_reducible refine (O1.out _ _).mono ?_; rintro e w1 ⟨rfl, hw1⟩; have hw' := hw1)
        | (go_at_call 15; go_split_ands; refine (O6.out _ _ ?_ ?_).mono ?_; (focus (go_simp; done)); (focus (go_simp; done)); rintro e w2 ⟨⟨rfl, ht2⟩, hw2⟩; have hw' := hw2)))
    all_goals
      go_split_ands
      go_wp2_with fail
      go_meet
      exact ⟨rfl, rfl,  by (with_reducible assumption), by (with_reducible assumption), by (with_reducible assumption), by (with_reducible assumption)⟩
  case rest =>
  generalize wc = W50 at hcut ⊢
  obtain ⟨rfl, rfl,  k0, k1, k2, hE50⟩ := hcut
  obtain ⟨-, ab, ao, rfl, -⟩ := hsy0 0 (by decide)
  have HWS := Lib.hid (fun (X : World) (hX : Ext W0 X) => mWorlds_any X ab ao 4 (hsy0.ext hX))
  have hK50 := k0
  have hA6 := ext_alloc W50 (.cells #[.int .i64 0] 3)
  have k0a := hA6.cell k0
  have c6 : (W50.alloc (.cells #[.int .i64 0] 3)).cell? ⟨W50.heap.size, 0, none⟩ = some (.int .i64 0) := by go_simp
  have f6 : (W50.alloc (.cells #[.int .i64 0] 3)).frozen? ⟨W50.heap.size, 0, none⟩ = false := by go_simp
  have hs6 : (W50.alloc (.cells #[.int .i64 0] 3)).heap.size = W50.heap.size + 1 := by simp
  obtain ⟨W6, hW6⟩ : ∃ W6, W6 = W50.alloc (.cells #[.int .i64 0] 3) := ⟨_, rfl⟩
  rw [← hW6] at hA6 c6 f6 hs6
  have HW6 := Lib.hid hW6
  have HS6 := Lib.hid hs6
  have HSYM := Lib.hid hsy0
  have hne : ∀ lb u, (binOp .eql 51 (.func (.func 39) #[] lb) .nilFunc).run Try.prog u = .ok (.bool false) u := fun _ _ => rfl
  clear hW6 hs6 T1 T2 C1 C2 O1 O2 O3 O4 O5 O6 hsy0 hT0
  go_wp2_with (go_at_call 16; rw [← HW6.out]; refine (HWS.out _ (hE50.trans hA6)).mono ?_; rintro e w5 ⟨⟨ob, zb, sb, sn, rfl, d0, hs4, hs63, hsb, hsyw, d1⟩, hx5⟩)
  have hkb5 : W50.heap.size < w5.heap.size := by have h1 := hx5.size; have h2 := HS6.out; omega
  have hsb5 : W50.heap.size < sb := by have h2 := HS6.out; omega
  have f6' := hx5.frozen c6 f6
  replace c6 := hx5.cell c6
  replace k0 := hx5.cell (hA6.cell k0)
  have hxw5 : Ext w w5 := hxw0.trans (hE50.trans (hA6.trans hx5))
  have hE5 : Ext W0 w5 := hE50.trans (hA6.trans hx5)
  have hwk : w.heap.size ≤ W50.heap.size := (hxw0.trans hE50).size
  have hp1 := cell_lt k0
  simp only at hp1
  have hp1k : p1 < W50.heap.size := by
    have h1 := cell_lt hK50
    exact h1
  have hsbl : sb < w5.heap.size := by
    obtain ⟨-, b', o', e, g1, -⟩ := hsyw 0 (by decide)
    injection e with e; injection e with e1 e2 _
    subst e1
    exact cell_lt g1
  have hob5 := cell_lt d0
  have hW0k := hE50.size
  generalize W50.heap.size = kb at *
  refine (wpIn_wide (n := 0)).1 ?_
  refine wpIn_rangeFunc_new (n := 0) (gf := 39) (lb := #[.pointer (some ⟨ob, 0, none⟩), .pointer (some ⟨zb, 0, none⟩)]) (by rfl) (fun _ _ => rfl) (ws_ok ob zb) (fun x args w h => h)
    [kb] (CJ w5 kb) (fun _ _ _ _ => False) ?hD ?hS0 ?h0 ?hJ ?hJx ?hJn ?hJxn ?body ?done ?stop
  case hD => intro w' hw'; exact ⟨⟨sb, sn, hw'.cell d0, hs4, hs63, by simp; omega, hsyw.ext hw'⟩, hw'.cell d1⟩
  case hS0 => intro b hb; simp at hb; omega
  case h0 => exact ⟨rfl, Chg.refl _ _, c6, f6'⟩
  case hJ => exact fun u1 u2 s S _ h k => h.mv hkb5 k (by simp)
  case hJx => exact fun _ _ _ _ _ _ h _ => h
  case hJn => exact fun u1 u2 s S T hT h k => h.mv hkb5 k (fun i hi => by have := (hT i hi).1; omega)
  case hJxn => exact fun _ _ _ _ _ _ _ h _ => h
  case stop => intro _ _ _ _ _ _ h; exact h.elim
  case body =>
    intro pre x rest hitems args V S m hG hj hSne hVl
    obtain ⟨rfl, hchg, hcell, hfrz⟩ := hj
    obtain ⟨v, rfl⟩ : ∃ v, args = #[v] := by
      have h : args.size = 1 := hG
      obtain ⟨l⟩ := args
      match l, h with
      | [v], _ => exact ⟨v, rfl⟩
    have hpl : pre.length < 32 := by
      have h := congrArg List.length hitems
      simp at h
      omega
    clear hitems
    gi_wp2
    intro V2 hc2 hcell2
    refine ⟨Mv.refl _ _, ?_⟩
    have e1 := hcell2 _ _ hcell
    have e2 := hc2.frozen hcell (by simp; omega) hfrz
    have hch2 : Chg [kb] w5 V2 := hchg.past hc2 (by simp)
    have hl2 : kb < V2.heap.size := by have := hch2.size; omega
    generalize hq : pre.length = q at *
    have HQ := Lib.hid hq
    clear hq
    have hwq : IntKind.i64.wrap ((q : Int) + 1) = ((q + 1 : Nat) : Int) := by rw [IntWalk.i64_in _ (by omega)]; omega
    clear hc2 hcell2 hchg hcell hfrz
    have hcs : Chg [kb] V2 (V2.setCell ⟨kb, 0, none⟩ (.int .i64 ((q + 1 : Nat) : Int))) := (Chg.refl _ _).setCell (p := ⟨kb, 0, none⟩) _ (.inl (by simp))
    have HF := Lib.hid (show Mv [kb] V2 [kb] (V2.setCell ⟨kb, 0, none⟩ (.int .i64 ((q : Int) + 1))) ∧ CJ w5 kb (V2.setCell ⟨kb, 0, none⟩ (.int .i64 ((q : Int) + 1))) (pre ++ [x]) [kb] from
      ⟨Mv.of_chg hcs, rfl, hch2.trans hcs, by rw [List.length_append, HQ.out]; exact World.cell?_setCell_same _ _ _ e1, by rw [World.frozen?_setCell]; exact e2⟩)
    clear hcs hch2
    gi_wp2
    exact ⟨[kb], HF.out⟩
  case done =>
    intro V S hm hj hK
    obtain ⟨rfl, hchg, hcell, hfrz⟩ := hj
    have hV5 := hchg.size
    replace k0 := hchg.cell k0 (by simp; omega)
    rw [List.length_range] at hcell
    have hEV : Ext W0 V := Chg.ext hE5 hchg (by simp; omega)
    have hxwV : Ext w V := hxw0.trans hEV
    have hKl := (Array.getElem?_eq_some_iff.1 hK).1
    have hm2 := mod31_none
    have HM := Lib.hid (fun (X : World) (hX : Ext W0 X) => by have h := M1.out X hX; rw [hm2] at h; exact h)
    clear hm2 hchg hm M1 hfrz
    go_wp2_with (go_at_call 11; refine (HM.out _ hEV).mono ?_; rintro e w9 ⟨rfl, hx9⟩)
    (try rw [Exit.noGoto_ret])
    have hK9 : w9.heap[w5.heap.size]? = some (.deferred (some [])) := (hx9.block _ hKl).trans hK
    have hfin : Ext w (w9.putObj w5.heap.size (.deferred none)) := Chg.ext (hxwV.trans hx9) (chg_putObj w9 w5.heap.size (.deferred none)) (by simp; have := hxw5.size; omega)
    exact leaves_mark (v := .bool true) rfl hK9 (by simp [results, Try.results6, go_sem]) ⟨rfl, hfin⟩
theorem wakesOK : WakesOK := wakes31_any
end Go.Proofs.Ytapoedcmhdlpfaa
