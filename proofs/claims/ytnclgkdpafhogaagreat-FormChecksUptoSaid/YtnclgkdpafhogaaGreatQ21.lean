/- The reference's Reader: atomic. Condition: a row of at most 2^30 tokens, not empty.
The reference's Reader: row, from what unit does. Condition: a row of at most 2^30 tokens, not empty. -/
import Derived.Test.YtnclgkdpafhogaaGreatQ20
namespace Go.Proofs.YtnclgkdpafhogaaGreat
open Go.ChangeShapes Go.WideShapes Go.ChangeAt Go.RowKit
theorem st_ok {α : Type} {rd : Rd α} {r : List Tok} (h : rd.st = .ok () r) : ∃ x, rd = .ok x r := by
  cases rd with
  | bad k => cases h
  | ok x k => injection h with _ h; subst h; exact ⟨x, rfl⟩
theorem ex_var {P : Nat → Prop} {w : World} {a b c : Value} {x : Ex} (h : IsEx P w a b c x) : ∃ ea ec, a = .bool x.var ∧ b = .string x.name ∧ c = .slice ea x.args.length ec := by
  obtain ⟨ea, ec, h1, h2, h3, -⟩ := h.form; exact ⟨ea, ec, h1, h2, h3⟩
section
variable {rb : Nat} {l : List Tok}
set_option maxHeartbeats 4000000 in
set_option maxRecDepth 100000 in
theorem ratomic_const (hl : l.length ≤ 1073741820) {u : Unit} {t : Tok} {r : List Tok} {w : World} (h : RSt rb l w (.ok u (t :: r))) (h3 : t.kind = 3) (b : Bool) (htx : t.text = if b then sTrue else sFalse) :
    Calls Tryz.prog 135 #[.pointer (some ⟨rb, 0, none⟩)] w (RPost isFm' rb l w (rAtomic (t :: r))) := by
  have HP := Lib.hid (fun w' (hx : Ext w w') => rpeek_any (by omega) (h.ext hx))
  obtain ⟨a, c, p, hown, hp, hpk, hsuf, hmove, -⟩ := h.good
  have hlt := hown.lt
  obtain ⟨c1, f1⟩ := hown 1 _ rfl
  obtain ⟨c2, f2⟩ := hown 2 _ rfl
  have HM := Lib.hid hmove
  have HK := Lib.hid (show ((p : Int) + 1) = ((l.length - r.length : Nat) : Int) by have := hsuf.length_le; simp at this; simp at hpk; omega)
  have HR := Lib.hid ((List.suffix_cons t r).trans hsuf)
  have hp1 : (p : Int) + 1 ≤ 1073741824 := by have := hsuf.length_le; simp at this; simp at hpk; omega
  have HE := Lib.hid (show rAtomic (t :: r) = .ok (.mk (if b then 1 else 2) [] [] []) r by
    unfold rAtomic
    cases b with
    | true => rw [if_pos (by simp [h3, htx])]; rfl
    | false => rw [if_neg (by simp [h3, htx]; decide), if_pos (by simp [h3, htx])]; rfl)
  clear hown h hmove hpk hsuf
  obtain ⟨kd, tx, ta⟩ := t
  simp only at HE h3 htx
  have q1 : (kd == 3) = true := by rw [beq_iff_eq]; exact h3
  have q2 : (tx.toList == [36, 116, 114, 117, 101]) = b := by subst htx; cases b <;> decide +kernel
  have q3 : (tx.toList == [36, 102, 97, 108, 115, 101]) = !b := by subst htx; cases b <;> decide +kernel
  clear h3 htx
  obtain ⟨W, hW⟩ : ∃ W, W = w.alloc (.cells #[.int .i64 0, .slice none 0 0, .slice none 0 0, .slice none 0 0] 29) := ⟨_, rfl⟩
  have hx : Ext w W := by rw [hW]; exact ext_alloc _ _
  have hnew : Own W w.heap.size [.int .i64 0, .slice none 0 0, .slice none 0 0, .slice none 0 0] := by rw [hW]; exact own4 w _ _ _ _ _
  have HO := Lib.hid (fun (op : Int) w' => rof_any op (P := fun _ => False) (l := []) (w := w') (a := none) (c := 0) fms_nil (Nat.zero_le _))
  simp only [List.length_nil] at HO
  cases b
  all_goals
    simp only [Bool.not_true, Bool.not_false] at q2 q3
    go_enter Tryz.func135, Tryz.ntmps135
    go_wp2_with (first | (rw [← hW]; clear hW; go_at_call 84; refine (HP.out _ hx).mono ?_; rintro e w1 ⟨⟨t2, rfl, -, ht2⟩, hx1⟩; obtain rfl : t2 = ⟨kd, tx, ta⟩ := ht2 _ _ rfl; simp only [Tok.vals]; clear ht2; replace f1 := (hx.trans hx1).frozen c1 f1; replace c1 := (hx.trans hx1).cell c1; replace c2 := (hx.trans hx1).cell c2; replace hnew := hnew.ext hx1; have hlt1 : rb < w1.heap.size := cell_lt c1; have hlt2 := hnew.lt; have hne : w.heap.size ≠ rb := by omega) | (go_at_call 86; refine (HO.out _ _).mono ?_; rintro e w2 ⟨⟨a2, k2, rfl, hk2, hf2⟩, hx2⟩; have hn2 := ((hnew.chg ((Chg.refl [rb] w1).setCell (p := ⟨rb, 1, none⟩) (.int .i64 ((p : Int) + 1)) (.inl (by simp))) (by simpa using hne)).ext (ext_alloc _ (.cells #[.int .i64 kd, .string tx, .int .i64 ta] 77))).ext hx2; (obtain ⟨⟨n0, g0⟩, ⟨n1, g1⟩, ⟨n2, g2⟩, ⟨n3, g3⟩⟩ := hn2.cells4)))
    have hq2 : Chg [rb] w w2 := (((Chg.of_ext (hx.trans hx1)).setCell (p := ⟨rb, 1, none⟩) (.int .i64 ((p : Int) + 1)) (.inl (by simp))).alloc _).trans (Chg.of_ext hx2)
    have hc2 : RSt rb l w2 (.ok () r) := ((HM.out w1 (Chg.of_ext (hx.trans hx1)) _ _ HR.out HK.out).ext (ext_alloc _ _)).ext hx2
    refine rfin4 hq2 (Nat.le_refl _) hlt hc2 hn2 (fun W2 r0 r1 r2 r3 => by simp [results, Tryz.results135, go_sem, r0, r1, r2, r3]) rfl fun W2 k1 k2 k3 => ⟨k2, ?_⟩
    rw [HE.out]
    exact ⟨k1, _, _, rfl, ⟨_, _, _, _, rfl, IsFm.mk' (v := []) (t := []) (l := []) (by decide) (by decide) (Nat.le_refl _) (Nat.le_refl _) hk2 strs_nil exs_nil (by unfold IsFms; rw [Fm.dats_map, List.map_nil]; trivial)⟩, fun x k he => by injection he⟩
set_option maxHeartbeats 16000000 in
set_option maxRecDepth 100000 in
theorem ratomic_term (hl : l.length ≤ 1073741820) {u : Unit} {ks : List Tok} {w : World} (h : RSt rb l w (.ok u ks)) (hno : ¬ ((peekT ks).kind = 3 ∧ ((peekT ks).text = sTrue ∨ (peekT ks).text = sFalse))) :
    Calls Tryz.prog 135 #[.pointer (some ⟨rb, 0, none⟩)] w (RPost isFm' rb l w (rAtomic ks)) := by
  have hl2 : l.length ≤ 1073741824 := by omega
  have HE := Lib.hid (atomic_eq (ks := ks) hno)
  have HS := Lib.hid h
  have HP := Lib.hid (fun w' (hx : Ext w w') => rpeek_any hl2 (h.ext hx))
  obtain ⟨a, c, p, hown, hp, hpk, hsuf, -, -⟩ := h.good
  have hlt := hown.lt
  obtain ⟨c2, f2⟩ := hown 2 _ rfl
  clear hown hpk hsuf h
  have hcase : (peekT ks).kind ≠ 3 ∨ ((peekT ks).kind = 3 ∧ (peekT ks).text ≠ sTrue ∧ (peekT ks).text ≠ sFalse) := by
    by_cases h3 : (peekT ks).kind = 3
    · exact .inr ⟨h3, fun h => hno ⟨h3, .inl h⟩, fun h => hno ⟨h3, .inr h⟩⟩
    · exact .inl h3
  clear hno
  obtain ⟨W, hW⟩ : ∃ W, W = w.alloc (.cells #[.int .i64 0, .slice none 0 0, .slice none 0 0, .slice none 0 0] 29) := ⟨_, rfl⟩
  have hx : Ext w W := by rw [hW]; exact ext_alloc _ _
  have hnew : Own W w.heap.size [.int .i64 0, .slice none 0 0, .slice none 0 0, .slice none 0 0] := by rw [hW]; exact own4 w _ _ _ _ _
  go_enter Tryz.func135, Tryz.ntmps135
  go_upto_region 2 with (rw [← hW]; clear hW; go_at_call 84; refine (HP.out _ hx).mono ?_; rintro e w1 ⟨⟨t, rfl, -, ht⟩, hx1⟩; simp only [Tok.vals])
  rw [← ht u ks rfl] at hcase
  clear ht
  obtain ⟨kd, tx, ta⟩ := t
  simp only at hcase ⊢
  obtain ⟨V, hV⟩ : ∃ V, V = w1.alloc (.cells #[.int .i64 kd, .string tx, .int .i64 ta] 77) := ⟨_, rfl⟩
  have hx3 : Ext w V := by rw [hV]; exact (hx.trans hx1).alloc _
  have hnV : Own V w.heap.size [.int .i64 0, .slice none 0 0, .slice none 0 0, .slice none 0 0] := by rw [hV]; exact (hnew.ext hx1).ext (ext_alloc _ _)
  have htV : Own V w1.heap.size [.int .i64 kd, .string tx, .int .i64 ta] := by rw [hV]; exact own3 w1 _ _ _ _
  rw [← hV]
  clear hV hx hx1 hnew HP
  generalize w1.heap.size = tb at *
  have hcV := HS.out.ext hx3
  have hnlt := hnV.lt
  have hle := hx3.size
  replace c2 := hx3.cell c2
  have hltV : rb < V.heap.size := hcV.lt
  obtain ⟨t0, -⟩ := htV 0 _ rfl
  obtain ⟨t1, -⟩ := htV 1 _ rfl
  go_cut [26] from 7 to 26 (fun v wx => v = .bool false ∧ wx = V)
  case first =>
    rcases hcase with h3 | ⟨h3, hnt, hnf⟩
    · have q1 : (kd == 3) = false := by rw [beq_eq_false_iff_ne]; exact h3
      clear h3
      go_wp2_with fail
      go_meet
      exact ⟨rfl, rfl⟩
    · have q1 : (kd == 3) = true := by rw [beq_iff_eq]; exact h3
      have q2 : (tx.toList == [36, 116, 114, 117, 101]) = false := by
        have := bytes_ne (a := tx) (b := sTrue) hnt
        rwa [show sTrue.toList = [36, 116, 114, 117, 101] by decide +kernel] at this
      have q3 : (tx.toList == [36, 102, 97, 108, 115, 101]) = false := by
        have := bytes_ne (a := tx) (b := sFalse) hnf
        rwa [show sFalse.toList = [36, 102, 97, 108, 115, 101] by decide +kernel] at this
      clear h3 hnt hnf
      go_wp2_with fail
      go_meet
      exact ⟨rfl, rfl⟩
  case rest =>
  obtain ⟨rfl, rfl⟩ := hcut
  clear hcase t0 t1 htV c2 f2
  have HT := Lib.hid (rterm_any (by omega) ks.length ks u (Nat.le_refl _) wc hcV)
  unfold RPost at HT
  go_upto_region 8 with (go_at_call 170; refine (HT.out).mono ?_; rintro e w3 ⟨hx4, hc4, v, x, rfl, ⟨xa, xv, xc, rfl, hv⟩, hval⟩; (obtain ⟨ea, ec, rfl, rfl, rfl⟩ := ex_var hv))
  obtain ⟨V3, hV3⟩ : ∃ V3, V3 = w3.alloc (.cells #[.bool x.var, .string x.name, .slice ea x.args.length ec] 73) := ⟨_, rfl⟩
  have hq3 : Chg [rb] w V3 := by rw [hV3]; exact (Chg.trans (Chg.of_ext hx3) hx4).alloc _
  have hc3 : RSt rb l V3 (rTerm ks).st := by rw [hV3]; exact hc4.ext (ext_alloc _ _)
  have hne : w.heap.size ≠ rb := by omega
  have hn3 : Own V3 w.heap.size [.int .i64 0, .slice none 0 0, .slice none 0 0, .slice none 0 0] := by rw [hV3]; exact (hnV.chg hx4 (by simpa using hne)).ext (ext_alloc _ _)
  have hxb : Own V3 w3.heap.size [.bool x.var, .string x.name, .slice ea x.args.length ec] := by rw [hV3]; exact own3 w3 _ _ _ _
  have hv3 : IsEx (fun g => w.heap.size ≤ g ∧ g ≠ w.heap.size ∧ g ≠ rb) V3 (.bool x.var) (.string x.name) (.slice ea x.args.length ec) x := by rw [hV3]; exact (Dat.Fs.mono hv (fun g hg _ => ⟨Nat.le_trans hle hg, by omega, by omega⟩)).ext (ext_alloc _ _)
  have hxn : w.heap.size < w3.heap.size := Nat.lt_of_lt_of_le hnlt hx4.size
  have HVAL := Lib.hid hval
  rw [← hV3]
  clear hV3 hx3 hx4 hc4 hv hnV hcV HS HT hnlt hle hval hltV
  generalize w3.heap.size = xb at *
  have hxc : xb ≠ rb := by omega
  clear w3 wc
  have HT := rtake_any hl2 hc3 sEq
  generalize hs1 : (rTerm ks).st = s1 at *
  have HS1 := Lib.hid hs1
  clear hs1
  cases hb : takeB sEq s1 with
  | true =>
    obtain ⟨r, r1, rfl, ht, hS, -⟩ := take_true hb
    obtain ⟨x0, hx0⟩ := st_ok HS1.out
    have hxe := HVAL.out x0 r hx0
    subst hxe
    have HE2 := Lib.hid (show rAtomic ks = (rTerm r1).map fun y => fEq x y by rw [HE.out, hx0, Rd.bind_ok]; unfold rAtomicTail; rw [ht])
    rw [hb, hS] at HT
    replace HT := Lib.hid HT
    clear hS hb hx0 HE HS1 HVAL ht
    simp only [sEq] at HT
    have HT2 := Lib.hid (fun w' (h : RSt rb l w' (.ok () r1)) => rterm_any (by omega) r1.length r1 () (Nat.le_refl _) w' h)
    unfold RPost at HT2
    go_upto_region 9 with (go_at_call 132; refine (HT.out).mono ?_; rintro e w5 ⟨rfl, hc5, hx5⟩)
    have hxb5 := hxb.chg hx5 (by simpa using hxc)
    have hn5 := hn3.chg hx5 (by simpa using hne)
    have hv5 := Dat.Fs.chg hv3 hx5 (fun g hg => by simpa using hg.2.2)
    have hq5 := hq3.trans hx5
    have hle5 := hq5.size
    clear hxb hn3 hv3 hq3 hc3 hx5 HT
    obtain ⟨p0, -⟩ := hxb5 0 _ rfl
    obtain ⟨p1, -⟩ := hxb5 1 _ rfl
    obtain ⟨p2, -⟩ := hxb5 2 _ rfl
    go_cut [] from 43 to 47 (fun wx => ∃ (ga : Nat) (y : Ex), RSt rb l wx (rTerm r1).st ∧ Own wx w.heap.size [.int .i64 4, .slice none 0 0, .slice (some ⟨ga, 0, none⟩) 2 2, .slice none 0 0] ∧ Chg [rb] w wx ∧ IsExs (fun g => w.heap.size ≤ g) wx (some ⟨ga, 0, none⟩) [x, y] ∧ ∀ z k, rTerm r1 = .ok z k → y = z)
    case first =>
      go_region_law ((go_simp; go_at_call 170; refine (HT2.out _ (hc5.ext (Ext.drew (Below.refl _ w5)))).mono ?_; rintro e w6 ⟨hx6', hst6, v6, y6, rfl, ⟨ya, yb, yc, rfl, hey⟩, hval6⟩; (have hx6 : Chg [rb] w5 w6 := (Chg.of_ext (Ext.drew (Below.refl _ w5))).trans hx6'); (have hxb6 := hxb5.chg hx6 (by simpa using hxc)); (have hn6 := hn5.chg hx6 (by simpa using hne)); (have hnl6 := hn6.lt); (have hv6 := Dat.Fs.chg hv5 hx6 (fun g hg => by simpa using hg.2.2)); (obtain ⟨m0, -⟩ := hxb6 0 _ rfl); (obtain ⟨m1, -⟩ := hxb6 1 _ rfl); (obtain ⟨m2, -⟩ := hxb6 2 _ rfl); (obtain ⟨⟨n0, g0⟩, ⟨n1, g1⟩, ⟨n2, g2⟩, ⟨n3, g3⟩⟩ := hn6.cells4); (obtain ⟨b1, c1, rfl, rfl, rfl⟩ := ex_var hey); (try simp only [])))
      all_goals
        go_wp2_with fail
        go_meet
        have hch := chg_set4 w6 w.heap.size (.int .i64 4) (.slice none 0 0) (.slice (some ⟨w6.heap.size, 0, none⟩) 2 2) (.slice none 0 0)
        have hle6 := hx6.size
        have hnl5 := hn5.lt
        have hE := exs_two 73 (P := fun g => w.heap.size ≤ g) (Dat.Fs.mono (Dat.Fs.chg hv6 hch (fun g hg => by simpa using hg.2.1)) fun g hg _ => hg.1) (Dat.Fs.mono (Dat.Fs.chg hey hch (fun g hg => by have h1 : w5.drew.heap.size ≤ g := hg; simp at h1 ⊢; omega)) fun g hg _ => by have h1 : w5.drew.heap.size ≤ g := hg; simp at h1; omega) (by have := hch.size; omega)
        rw [show ((((w6.setCell ⟨w.heap.size, 0, none⟩ (.int .i64 4)).setCell ⟨w.heap.size, 1, none⟩ (.slice none 0 0)).setCell ⟨w.heap.size, 2, none⟩ (.slice (some ⟨w6.heap.size, 0, none⟩) 2 2)).setCell ⟨w.heap.size, 3, none⟩ (.slice none 0 0)).heap.size = w6.heap.size by simp [World.setCell]] at hE
        refine ⟨w6.heap.size, y6, (hst6.chg hch (by simp; omega)).ext (ext_alloc _ _), (own_set4 hn6 _ _ _ _).ext (ext_alloc _ _), ?_, hE, hval6⟩
        exact (Chg.drop (T := [rb]) (Below.refl _ _) (((hq5.trans hx6).mono (T := [rb, w.heap.size]) (by simp)).trans (hch.mono (by simp))) (by simp)).alloc _
    case rest =>
      generalize wc = w8 at hcut ⊢
      obtain ⟨ga, y, k1, k2, k3, k4, hval⟩ := hcut
      obtain ⟨z0, z1, z2, z3⟩ := own_res4 k2
      have HVAL := Lib.hid hval
      clear hval hxb5 hn5 hv5 hc5
      go_wp2_with fail
      refine bodyPost_ret (v := .agg #[.int .i64 4, .slice none 0 0, .slice (some ⟨ga, 0, none⟩) 2 2, .slice none 0 0]) (by simp [results, Tryz.results135, go_sem, z0, z1, z2, z3]) rfl ⟨k3, ?_⟩
      rw [HE2.out]
      refine ⟨?_, _, fEq x y, rfl, ⟨_, _, _, _, rfl, fm_terms (l := [x, y]) (by decide) (by decide) (Nat.le_refl _) k4⟩, fun z k he => ?_⟩
      · cases hr : rTerm r1 with
        | bad k => rw [hr] at k1; exact k1
        | ok z k => rw [hr] at k1; exact k1
      · cases hr : rTerm r1 with
        | bad k => rw [hr] at he; cases he
        | ok y' k => rw [hr] at he; injection he with he; rw [← he, HVAL.out y' k hr]
  | false =>
    have hS0 : takeSt sEq s1 = s1 := by
      cases s1 with
      | bad r => rfl
      | ok u r =>
        cases ht : takeS sEq r with
        | none => exact (takeSt_none ht).1
        | some r1 => rw [(takeSt_some ht).2] at hb; cases hb
    have HB := Lib.hid hb
    rw [hb, hS0] at HT
    replace HT := Lib.hid HT
    clear hb hS0
    simp only [sEq] at HT
    go_upto_region 10 with (go_at_call 132; refine (HT.out).mono ?_; rintro e w4 ⟨rfl, hc4, hx4⟩)
    have hxb4 := hxb.chg hx4 (by simpa using hxc)
    have hn4 := hn3.chg hx4 (by simpa using hne)
    have hv4 := Dat.Fs.chg hv3 hx4 (fun g hg => by simpa using hg.2.2)
    have hq4 := hq3.trans hx4
    clear hxb hn3 hv3 hq3 hc3 hx4 HT
    have HT := rtake_any hl2 hc4 sNe
    cases hb : takeB sNe s1 with
    | true =>
      obtain ⟨r, r1, rfl, ht, hS, -⟩ := take_true hb
      obtain ⟨x0, hx0⟩ := st_ok HS1.out
      have hxe := HVAL.out x0 r hx0
      subst hxe
      have he0 : takeS sEq r = none := by
        have := HB.out
        unfold takeB at this
        cases h : takeS sEq r with
        | none => rfl
        | some r1 => simp [h] at this
      have HE2 := Lib.hid (show rAtomic ks = (rTerm r1).map fun y => fNot (fEq x y) by rw [HE.out, hx0, Rd.bind_ok]; unfold rAtomicTail; rw [he0]; simp only; rw [ht])
      rw [hb, hS] at HT
      replace HT := Lib.hid HT
      clear hS hb hx0 HE HS1 HVAL ht he0 HB
      simp only [sNe] at HT
      have HT2 := Lib.hid (fun w' (h : RSt rb l w' (.ok () r1)) => rterm_any (by omega) r1.length r1 () (Nat.le_refl _) w' h)
      unfold RPost at HT2
      go_upto_region 11 with (go_at_call 132; refine (HT.out).mono ?_; rintro e w5 ⟨rfl, hc5, hx5⟩)
      have hxb5 := hxb4.chg hx5 (by simpa using hxc)
      have hn5 := hn4.chg hx5 (by simpa using hne)
      have hv5 := Dat.Fs.chg hv4 hx5 (fun g hg => by simpa using hg.2.2)
      have hq5 := hq4.trans hx5
      have hle5 := hq5.size
      have hnl5 := hn5.lt
      clear hxb4 hn4 hv4 hq4 hc4 hx5 HT
      obtain ⟨p0, -⟩ := hxb5 0 _ rfl
      obtain ⟨p1, -⟩ := hxb5 1 _ rfl
      obtain ⟨p2, -⟩ := hxb5 2 _ rfl
      go_cut [] from 50 to 56 (fun wx => ∃ (ga : Option Addr) (gc : Nat) (y : Ex), RSt rb l wx (rTerm r1).st ∧ Own wx w.heap.size [.int .i64 5, .slice none 0 0, .slice none 0 0, .slice ga 1 gc] ∧ 1 ≤ gc ∧ Chg [rb] w wx ∧ IsFms (fun g => w.heap.size ≤ g) wx ga [fEq x y] ∧ ∀ z k, rTerm r1 = .ok z k → y = z)
      case first =>
        go_region_law ((first
          | (go_simp; go_at_call 170; refine (HT2.out _ (hc5.ext (Ext.drew (Below.refl _ w5)))).mono ?_; rintro e w6 ⟨hx6', hst6, v6, y6, rfl, ⟨ya, yb, yc, rfl, hey⟩, hval6⟩; (have hx6 : Chg [rb] w5 w6 := (Chg.of_ext (Ext.drew (Below.refl _ w5))).trans hx6'); (have hxb6 := hxb5.chg hx6 (by simpa using hxc)); (have hn6 := hn5.chg hx6 (by simpa using hne)); (have hnl6 := hn6.lt); (have hv6 := Dat.Fs.chg hv5 hx6 (fun g hg => by simpa using hg.2.2)); (obtain ⟨m0, -⟩ := hxb6 0 _ rfl); (obtain ⟨m1, -⟩ := hxb6 1 _ rfl); (obtain ⟨m2, -⟩ := hxb6 2 _ rfl); (obtain ⟨⟨n0, g0⟩, ⟨n1, g1⟩, ⟨n2, g2⟩, ⟨n3, g3⟩⟩ := hn6.cells4); (obtain ⟨b1, c1, rfl, rfl, rfl⟩ := ex_var hey); (have HF6 := Lib.hid (show IsFms (fun g => w.heap.size ≤ g ∧ g ≠ w.heap.size) _ (some ⟨w6.heap.size + 1, 0, none⟩) [fEq x y6] from (by
            have hle6 := hx6.size
            have hE := exs_two 73 (P := fun g => w.heap.size ≤ g ∧ g ≠ w.heap.size) (Dat.Fs.mono hv6 fun g hg _ => ⟨hg.1, hg.2.1⟩) (Dat.Fs.mono hey fun g hg _ => by have h1 : w5.drew.heap.size ≤ g := hg; simp at h1; omega) (show w.heap.size ≤ w6.heap.size ∧ w6.heap.size ≠ w.heap.size by omega)
            have hF := fms_one 29 (fm_terms (l := [x, y6]) (op := 4) (c := 2) (by decide) (by decide) (Nat.le_refl _) hE) (by simp; omega)
            rw [World.size_alloc] at hF
            exact hF))); (try simp only []))
          | (go_simp; go_at_call 86; refine (rof_any 5 (P := fun g => w.heap.size ≤ g ∧ g ≠ w.heap.size) (l := [fEq x y6]) (c := 1) HF6.out (by simp)).mono ?_; rintro e w7 ⟨⟨a7, c7, rfl, hc7, hf7⟩, hx7⟩; (have hn7 := (hn6.ext ((ext_alloc _ (.cells #[.bool x.var, .string x.name, .slice ea x.args.length ec, .bool y6.var, .string y6.name, .slice b1 y6.args.length c1] 73)).alloc (.cells #[.int .i64 4, .slice none 0 0, .slice (some ⟨w6.heap.size, 0, none⟩) 2 2, .slice none 0 0] 29))).ext hx7); clear n0 n1 n2 n3 g0 g1 g2 g3; (obtain ⟨⟨n0, g0⟩, ⟨n1, g1⟩, ⟨n2, g2⟩, ⟨n3, g3⟩⟩ := hn7.cells4); (have hnl7 := hn7.lt); (try simp only [List.length_cons, List.length_nil, Nat.zero_add]))))
        all_goals
          go_wp2_with fail
          go_meet
          have hch := chg_set4 w7 w.heap.size (.int .i64 5) (.slice none 0 0) (.slice none 0 0) (.slice a7 1 c7)
          have hxx : Ext w6 w7 := ((ext_alloc _ (.cells #[.bool x.var, .string x.name, .slice ea x.args.length ec, .bool y6.var, .string y6.name, .slice b1 y6.args.length c1] 73)).alloc (.cells #[.int .i64 4, .slice none 0 0, .slice (some ⟨w6.heap.size, 0, none⟩) 2 2, .slice none 0 0] 29)).trans hx7
          refine ⟨a7, c7, y6, (hst6.ext hxx).chg hch (by simp; omega), own_set4 hn7 _ _ _ _, hc7, ?_, Dat.Rows.mono (Dat.Rows.chg hf7 hch (fun g hg => by simp at hg ⊢; omega)) (fun g hg _ => by simp at hg; omega), hval6⟩
          exact Chg.drop (T := [rb]) (Below.refl _ _) ((((hq5.trans hx6).trans (Chg.of_ext hxx)).mono (T := [rb, w.heap.size]) (by simp)).trans (hch.mono (by simp))) (by simp)
      case rest =>
        generalize wc = w8 at hcut ⊢
        obtain ⟨ga, gc, y, k1, k2, k0, k3, k4, hval⟩ := hcut
        obtain ⟨z0, z1, z2, z3⟩ := own_res4 k2
        have HVAL := Lib.hid hval
        clear hval hxb5 hn5 hv5 hc5
        go_wp2_with fail
        refine bodyPost_ret (v := .agg #[.int .i64 5, .slice none 0 0, .slice none 0 0, .slice ga 1 gc]) (by simp [results, Tryz.results135, go_sem, z0, z1, z2, z3]) rfl ⟨k3, ?_⟩
        rw [HE2.out]
        refine ⟨?_, _, fNot (fEq x y), rfl, ⟨_, _, _, _, rfl, fm_args (l := [fEq x y]) (by decide) (by decide) k0 k4⟩, fun z k he => ?_⟩
        · cases hr : rTerm r1 with
          | bad k => rw [hr] at k1; exact k1
          | ok z k => rw [hr] at k1; exact k1
        · cases hr : rTerm r1 with
          | bad k => rw [hr] at he; cases he
          | ok y' k => rw [hr] at he; injection he with he; rw [← he, HVAL.out y' k hr]
    | false =>
      have hS0 : takeSt sNe s1 = s1 := by
        cases s1 with
        | bad r => rfl
        | ok u r =>
          cases ht : takeS sNe r with
          | none => exact (takeSt_none ht).1
          | some r1 => rw [(takeSt_some ht).2] at hb; cases hb
      have HB2 := Lib.hid hb
      rw [hb, hS0] at HT
      replace HT := Lib.hid HT
      clear hb hS0
      simp only [sNe] at HT
      go_upto_region 12 with (go_at_call 132; refine (HT.out).mono ?_; rintro e w5 ⟨rfl, hc5, hx5⟩)
      have hxb5 := hxb4.chg hx5 (by simpa using hxc)
      have hn5 := hn4.chg hx5 (by simpa using hne)
      have hv5 := Dat.Fs.chg hv4 hx5 (fun g hg => by simpa using hg.2.2)
      have hq5 := hq4.trans hx5
      clear hxb4 hn4 hv4 hq4 hc4 hx5 HT
      obtain ⟨p0, -⟩ := hxb5 0 _ rfl
      have HE3 := Lib.hid (show ∀ x0 r, rTerm ks = .ok x0 r → x0 = x ∧ rAtomic ks = if x.var then .bad r else .ok (fAtom x) r from fun x0 r hr => by
        have hxe := HVAL.out x0 r hr
        refine ⟨hxe.symm, ?_⟩
        have hs := HS1.out
        rw [hr] at hs
        have hs : Rd.ok () r = s1 := hs
        have h1 := HB.out
        have h2 := HB2.out
        rw [← hs] at h1 h2
        have he1 : takeS sEq r = none := by
          unfold takeB at h1
          cases h : takeS sEq r with
          | none => rfl
          | some r1 => simp [h] at h1
        have he2 : takeS sNe r = none := by
          unfold takeB at h2
          cases h : takeS sNe r with
          | none => rfl
          | some r1 => simp [h] at h2
        rw [HE.out, hr, Rd.bind_ok, hxe]
        unfold rAtomicTail
        rw [he1]; simp only; rw [he2])
      have HE4 := Lib.hid (show ∀ r, rTerm ks = .bad r → rAtomic ks = .bad r ∧ s1 = .bad r from fun r hr => by
        refine ⟨by rw [HE.out, hr]; rfl, ?_⟩
        have hs := HS1.out
        rw [hr] at hs
        exact hs.symm)
      have HST := Lib.hid (show (rAtomic ks).st = if x.var then .bad s1.rest else s1 by
        cases hr : rTerm ks with
        | bad r => obtain ⟨h1, rfl⟩ := HE4.out r hr; rw [h1]; cases x.var <;> rfl
        | ok x0 r =>
          obtain ⟨-, h1⟩ := HE3.out x0 r hr
          have hs := HS1.out
          rw [hr] at hs
          have hs : Rd.ok () r = s1 := hs
          subst hs
          rw [h1]; cases x.var <;> rfl)
      have HVL := Lib.hid (show ∀ z k, rAtomic ks = .ok z k → fAtom x = z from fun z k hz => by
        cases hr : rTerm ks with
        | bad r => rw [(HE4.out r hr).1] at hz; cases hz
        | ok x0 r =>
          rw [(HE3.out x0 r hr).2] at hz
          cases hxv : x.var with
          | true => rw [hxv] at hz; cases hz
          | false => rw [hxv] at hz; injection hz)
      clear HE HE3 HE4 HS1 HB HB2 HVAL
      cases hxv : x.var with
      | true =>
        rw [hxv] at p0 HST hv5 hxb5
        go_wp2_with (go_at_call 117; refine (rwrong_any hl2 hc5).mono ?_; rintro e w6 ⟨rfl, hc6, hx6⟩; have hxb6 := hxb5.chg hx6 (by simpa using hxc); have hn6 := hn5.chg hx6 (by simpa using hne); have hv6 := Dat.Fs.chg hv5 hx6 (fun g hg => by simpa using hg.2.2); have hq6 := hq5.trans hx6; have hnl6 := hn6.lt; (obtain ⟨m0, -⟩ := hxb6 0 _ rfl); (obtain ⟨m1, -⟩ := hxb6 1 _ rfl); (obtain ⟨m2, -⟩ := hxb6 2 _ rfl); (obtain ⟨⟨n0, g0⟩, ⟨n1, g1⟩, ⟨n2, g2⟩, ⟨n3, g3⟩⟩ := hn6.cells4))
        have hch := chg_set4 w6 w.heap.size (.int .i64 3) (.slice none 0 0) (.slice (some ⟨w6.heap.size, 0, none⟩) 1 1) (.slice none 0 0)
        have hE := exs_one 73 (P := fun g => w.heap.size ≤ g) (Dat.Fs.mono (Dat.Fs.chg hv6 hch (fun g hg => by simpa using hg.2.1)) fun g hg _ => hg.1) (by have := hch.size; omega)
        rw [show ((((w6.setCell ⟨w.heap.size, 0, none⟩ (.int .i64 3)).setCell ⟨w.heap.size, 1, none⟩ (.slice none 0 0)).setCell ⟨w.heap.size, 2, none⟩ (.slice (some ⟨w6.heap.size, 0, none⟩) 1 1)).setCell ⟨w.heap.size, 3, none⟩ (.slice none 0 0)).heap.size = w6.heap.size by simp [World.setCell]] at hE
        have hres := (own_set4 hn6 (.int .i64 3) (.slice none 0 0) (.slice (some ⟨w6.heap.size, 0, none⟩) 1 1) (.slice none 0 0)).ext (ext_alloc _ (.cells #[.bool true, .string x.name, .slice ea x.args.length ec] 73))
        have hcf := (hc6.chg hch (by simp; omega)).ext (ext_alloc _ (.cells #[.bool true, .string x.name, .slice ea x.args.length ec] 73))
        have hqf := (Chg.drop (T := [rb]) (Below.refl _ _) ((hq6.mono (T := [rb, w.heap.size]) (by simp)).trans (hch.mono (by simp))) (by simp)).alloc (.cells #[.bool true, .string x.name, .slice ea x.args.length ec] 73)
        obtain ⟨z0, z1, z2, z3⟩ := own_res4 hres
        refine bodyPost_ret (v := .agg #[.int .i64 3, .slice none 0 0, .slice (some ⟨w6.heap.size, 0, none⟩) 1 1, .slice none 0 0]) (by simp [results, Tryz.results135, go_sem, z0, z1, z2, z3]) rfl ⟨hqf, ?_, _, fAtom x, rfl, ⟨_, _, _, _, rfl, fm_terms (l := [x]) (by decide) (by decide) (Nat.le_refl _) hE⟩, HVL.out⟩
        rw [HST.out]
        exact hcf
      | false =>
        rw [hxv] at p0 HST hv5 hxb5
        have hn6 := hn5
        have hv6 := hv5
        have hc6 : RSt rb l w5 (if false = true then .bad s1.rest else s1) := hc5
        have hq6 := hq5
        have hnl6 := hn6.lt
        obtain ⟨m1, -⟩ := hxb5 1 _ rfl
        obtain ⟨m2, -⟩ := hxb5 2 _ rfl
        obtain ⟨⟨n0, g0⟩, ⟨n1, g1⟩, ⟨n2, g2⟩, ⟨n3, g3⟩⟩ := hn6.cells4
        go_wp2_with fail
        have hch := chg_set4 w5 w.heap.size (.int .i64 3) (.slice none 0 0) (.slice (some ⟨w5.heap.size, 0, none⟩) 1 1) (.slice none 0 0)
        have hE := exs_one 73 (P := fun g => w.heap.size ≤ g) (Dat.Fs.mono (Dat.Fs.chg hv6 hch (fun g hg => by simpa using hg.2.1)) fun g hg _ => hg.1) (by have := hch.size; omega)
        rw [show ((((w5.setCell ⟨w.heap.size, 0, none⟩ (.int .i64 3)).setCell ⟨w.heap.size, 1, none⟩ (.slice none 0 0)).setCell ⟨w.heap.size, 2, none⟩ (.slice (some ⟨w5.heap.size, 0, none⟩) 1 1)).setCell ⟨w.heap.size, 3, none⟩ (.slice none 0 0)).heap.size = w5.heap.size by simp [World.setCell]] at hE
        have hres := (own_set4 hn6 (.int .i64 3) (.slice none 0 0) (.slice (some ⟨w5.heap.size, 0, none⟩) 1 1) (.slice none 0 0)).ext (ext_alloc _ (.cells #[.bool false, .string x.name, .slice ea x.args.length ec] 73))
        have hcf := (hc6.chg hch (by simp; omega)).ext (ext_alloc _ (.cells #[.bool false, .string x.name, .slice ea x.args.length ec] 73))
        have hqf := (Chg.drop (T := [rb]) (Below.refl _ _) ((hq6.mono (T := [rb, w.heap.size]) (by simp)).trans (hch.mono (by simp))) (by simp)).alloc (.cells #[.bool false, .string x.name, .slice ea x.args.length ec] 73)
        obtain ⟨z0, z1, z2, z3⟩ := own_res4 hres
        refine bodyPost_ret (v := .agg #[.int .i64 3, .slice none 0 0, .slice (some ⟨w5.heap.size, 0, none⟩) 1 1, .slice none 0 0]) (by simp [results, Tryz.results135, go_sem, z0, z1, z2, z3]) rfl ⟨hqf, ?_, _, fAtom x, rfl, ⟨_, _, _, _, rfl, fm_terms (l := [x]) (by decide) (by decide) (Nat.le_refl _) hE⟩, HVL.out⟩
        rw [HST.out]
        exact hcf
end
end Go.Proofs.YtnclgkdpafhogaaGreat
namespace Go.Proofs.YtnclgkdpafhogaaGreat
open Go.ChangeShapes Go.WideShapes Go.ChangeAt Go.RowKit
/-- elements of m cells that read as fields, in blocks of Q -/
def eltDatQ (m : Nat) (Q : Nat → Prop) : Elt (List Dat) where
  size := m
  is P w cs a := cs.length = m ∧ Dat.Fs (fun g => P g ∧ Q g) w cs a
  len h := h.1
  one h := Dat.Fs.one h.2
  keep h1 h2 h := ⟨h.1, Dat.Fs.of_cells (fun b hb hlt => ⟨h1 b hb.1 hlt, hb.2⟩) (fun p v hp hv => h2 p v hp.1 hv) h.2⟩
theorem GRow.datQ {m e B : Nat} {Q : Nat → Prop} {w : World} {v : Value} {l : List (List Dat)} (hm : 0 < m) (h : GRow (eltDatQ m Q) e B w v l) (hQ : ∀ g, v.ownBlock = some g → Q g) : ∃ a c, v = .slice a l.length c ∧ l.length ≤ c ∧ Dat.Rows (fun b => B ≤ b ∧ Q b) w a l := by
  obtain ⟨a, c, rfl, hc⟩ := h.form
  refine ⟨a, c, rfl, hc, ?_⟩
  rcases Nat.eq_zero_or_pos l.length with h0 | h0
  · have : l = [] := List.eq_nil_of_length_eq_zero h0
    subst this; trivial
  · obtain ⟨g, cap, cs, hv, hg, -⟩ := h.at h0
    injection hv with e1 _ _
    subst e1
    have hel : ∀ e ∈ l, e.length = m := by
      intro x hx
      obtain ⟨i, hi, rfl⟩ := List.getElem_of_mem hx
      obtain ⟨_, _, cs, -, -, -, -, h1, h2, -⟩ := h.at hi
      rw [← Dat.Fs.length h1.2]; exact h2
    refine Dat.Rows.of_at ⟨hg, hQ g rfl⟩ hm hel fun i hi => ?_
    obtain ⟨g', cap', cs, hv', -, -, -, h1, h2, h3⟩ := h.at hi
    injection hv' with e1 _ _
    injection e1 with e1; injection e1 with e1 _ _
    subst e1
    exact ⟨cs, fun j u hu => by have := h3 j u hu; simpa [eltDatQ] using this, h1.2.mono fun b hb _ => ⟨hb.1.1, hb.2⟩⟩
theorem fm_elQ {P Q R : Nat → Prop} {w : World} {a b c d : Value} {x : Fm} (h : IsFm P w a b c d x) (hQ : ∀ g, P g → g < w.heap.size → Q g ∧ R g) : (eltDatQ 4 R).is Q w [a, b, c, d] x.dat := ⟨rfl, Dat.Fs.mono h hQ⟩
/-- what a reading of the reference does; the thing lies in blocks from B on -/
def RPostB {α : Type} (is : (Nat → Prop) → World → Value → α → Prop) (B rb : Nat) (l : List Tok) (w : World) (rd : Rd α) (e : Ending) (w' : World) : Prop :=
  Chg [rb] w w' ∧ RSt rb l w' rd.st ∧ ∃ v x', e = .returned v ∧ is (fun g => B ≤ g) w' v x' ∧ ∀ x r, rd = .ok x r → x' = x
theorem chg_grow {S : List Nat} {w0 w1 w2 : World} {v : Value} (h : Chg S w0 w1) (hg : w1.grownBy w2 v.ownBlock) (hv : ∀ g, v.ownBlock = some g → w0.heap.size ≤ g) : Chg S w0 w2 :=
  ⟨hg.os.trans h.os, hg.tape.trans h.tape, hg.output.trans h.output, Nat.le_trans h.size hg.size, fun k hk hs => (hg.block k (Nat.lt_of_lt_of_le hk h.size) (fun e => by have := hv k e.symm; omega)).trans (h.block k hk hs)⟩
def RRRel (rb nb : Nat) (l : List Tok) (w : World) (B : Nat) (f : Fm) (s : ByteArray) (m : Nat) (A : Rd (List Fm)) (g : Nat) (v : Value) (wr : World) : Prop :=
  ∃ (st : Rd Unit) (pre : List Fm), g = toGo st ∧ RSt rb l wr st ∧ GRow (eltDatQ 4 (fun g => g ≠ nb)) 29 B wr v ((f :: pre).map Fm.dat) ∧ (∀ g, v.ownBlock = some g → nb < g) ∧ Own wr nb [.int .i64 0, .slice none 0 0, .slice none 0 0, .slice none 0 0] ∧ Chg [rb] w wr ∧
    pre.length + toGo st ≤ m ∧ A = st.bind fun _ r => (more rUnit s r).map (pre ++ ·)
set_option maxHeartbeats 16000000 in
set_option maxRecDepth 100000 in
theorem rrow_any {rb : Nat} {l : List Tok} (hl : l.length ≤ 1073741820) {n : Nat} (ih : RUnitOK rb l n) {u : Unit} {ks : List Tok} (hkn : ks.length ≤ n) {w : World} (h : RSt rb l w (.ok u ks)) (op : Int) (h0 : -9223372036854775808 ≤ op) (h0' : op ≤ 9223372036854775807) (s : ByteArray)
    {B : Nat} (hB : B ≤ w.heap.size) (hrB : rb < B) {x0 x1 x2 x3 : Value} {f : Fm} (hf : IsFm (fun g => B ≤ g) w x0 x1 x2 x3 f) :
    Calls Tryz.prog 85 #[.pointer (some ⟨rb, 0, none⟩), .int .i64 op, .string s, .agg #[x0, x1, x2, x3]] w (RPostB isFm' B rb l w ((more rUnit s ks).map fun m => fOf op (f :: m))) := by
  have hl2 : l.length ≤ 1073741824 := by omega
  have hlt := h.lt
  have hkl : ks.length ≤ l.length := by obtain ⟨_, _, _, _, _, _, hs, _⟩ := h.good; exact hs.length_le
  have HIH := Lib.hid ih
  clear ih
  obtain ⟨i0, hi0, hz0, hz1', hz2'⟩ := info_parts infoFm
  obtain ⟨b1, c1, b2, c2, b3, c3, rfl, rfl, rfl, rfl, -⟩ := hf.form
  obtain ⟨W, hW⟩ : ∃ W, W = (w.alloc (.cells #[.int .i64 f.op, .slice b1 f.vars.length c1, .slice b2 f.terms.length c2, .slice b3 f.args.length c3] 29)).alloc (.cells #[.int .i64 0, .slice none 0 0, .slice none 0 0, .slice none 0 0] 29) := ⟨_, rfl⟩
  have hx : Ext w W := by rw [hW]; exact (ext_alloc _ _).alloc _
  have hfb : Own W w.heap.size [.int .i64 f.op, .slice b1 f.vars.length c1, .slice b2 f.terms.length c2, .slice b3 f.args.length c3] := by rw [hW]; exact (own4 w _ _ _ _ _).ext (ext_alloc _ _)
  have hnb : Own W (w.heap.size + 1) [.int .i64 0, .slice none 0 0, .slice none 0 0, .slice none 0 0] := by
    rw [hW]; have := own4 (w.alloc (.cells #[.int .i64 f.op, .slice b1 f.vars.length c1, .slice b2 f.terms.length c2, .slice b3 f.args.length c3] 29)) (.int .i64 0) (.slice none 0 0) (.slice none 0 0) (.slice none 0 0) 29
    rw [World.size_alloc] at this; exact this
  have hfW : IsFm (fun g => B ≤ g ∧ g < w.heap.size) W _ _ _ _ f := (Dat.Fs.mono hf fun g hg hlt => ⟨hg, hlt⟩).ext hx
  have hcW := h.ext hx
  go_enter Tryz.func85, Tryz.ntmps85
  go_upto_region 1 with fail
  rw [← hW]
  clear hW hf h
  obtain ⟨fb, hfbe⟩ : ∃ fb, fb = w.heap.size := ⟨_, rfl⟩
  obtain ⟨nb, hnbe⟩ : ∃ nb, nb = w.heap.size + 1 := ⟨_, rfl⟩
  rw [← hnbe] at hnb
  rw [← hfbe] at hfb
  rw [← hnbe, ← hfbe]
  have hw1 : w.heap.size ≤ nb := by omega
  have hnc : nb ≠ rb := by omega
  have hrn : rb < nb := by omega
  clear hfbe hnbe
  obtain ⟨⟨m0, -⟩, ⟨m1, -⟩, ⟨m2, -⟩, ⟨m3, -⟩⟩ := hfb.cells4
  have hnl := hnb.lt
  have hone : GRow (eltDatQ 4 (fun g => g ≠ nb)) 29 B (W.alloc (.cells #[.int .i64 f.op, .slice b1 f.vars.length c1, .slice b2 f.terms.length c2, .slice b3 f.args.length c3] 29)) (.slice (some ⟨W.heap.size, 0, none⟩) 1 1) [f.dat] :=
    GRow.one (by have := hx.size; omega) (fm_elQ hfW fun g hg hlt => ⟨⟨hg.1, hlt⟩, by omega⟩) _ rfl
  go_wp2_with fail
  clear m0 m1 m2 m3 hfb
  go_loopg [9] (ks.length + 1) (fun g v wr => RRRel rb nb l w B f s (ks.length + 1) (more rUnit s ks) g v wr)
  case atStart => exact ⟨.ok u ks, [], rfl, hcW.ext (ext_alloc _ _), hone, fun g hg => by injection hg with hg; dsimp only at hg; omega, hnb.ext (ext_alloc _ _), Chg.of_ext (hx.alloc _), by simp [toGo], by rw [Rd.bind_ok]; cases more rUnit s ks <;> rfl⟩
  case round =>
    obtain ⟨st, pre, hg, hst, hrow, hob, hnw, hq, hlen, hA⟩ := hrel
    have HG := Lib.hid hg
    have HA := Lib.hid hA
    have HML := Lib.hid (show ((f :: pre).map Fm.dat).length = pre.length + 1 by simp)
    obtain ⟨va, vc, hv, hvc⟩ := hrow.form
    rw [HML.out] at hv hvc
    subst hv
    clear hg hA hone hcW
    have HT := rtake_any hl2 hst s
    have hpl : pre.length ≤ 1073741822 := by omega
    cases hb : takeB s st with
    | true =>
      obtain ⟨r2, r3, rfl, ht, hS, hr3⟩ := take_true hb
      rw [hb, hS] at HT
      replace HT := Lib.hid HT
      clear hS hb
      have hlen2 : pre.length + (r2.length + 1) ≤ ks.length + 1 := hlen
      have HTT := Lib.hid (fun w' (h : RSt rb l w' (.ok () r3)) => HIH.out (.ok () r3) (by simp only [toGo]; omega) w' h)
      unfold RPost at HTT
      simp only [Rd.bind_ok] at HTT
      have HAT := Lib.hid ht
      have HG2 := Lib.hid (show _ = r2.length + 1 from HG.out)
      clear ht hlen HG
      have hsz := hq.size
      have hown := hob
      clear hob
      have HOB := Lib.hid hown
      clear hown
      go_wp2_with (first
        | (go_at_call 132; refine (HT.out).mono ?_; rintro e w7 ⟨rfl, hc7, hx7⟩; have hrow7 := hrow.chg hx7 (by simp; omega); have hnw7 := hnw.chg hx7 (by simpa using hnc); have hq7 := hq.trans hx7; have hsz7 := hq7.size; have hnl7 := hnw7.lt)
        | (go_at_call 83; refine (HTT.out _ hc7).mono ?_; rintro e w4 ⟨hx4, hst4, v4, x4, rfl, ⟨xa, xv, xc, xd, rfl, hex⟩, hval⟩; have hrow4 := hrow7.chg hx4 (by simp; omega); have hnw4 := hnw7.chg hx4 (by simpa using hnc); have hsz4 := hx4.size; (obtain ⟨d1, e1, d2, e2, d3, e3, rfl, rfl, rfl, rfl, -⟩ := hex.form))
        | (at_builtin; refine wpList_append_row rfl _ _ _ rfl 29 i0 _ 80 Tryz.underlying27 hi0 hz0 hz1' hz2' rfl (show (0 : Nat) < 4 by decide) B (.slice va (pre.length + 1) vc) ((f :: pre).map Fm.dat) rfl w4 hrow4 (ext_alloc _ _) w4.heap.size rfl _ _ (heap_alloc_new _ _) x4.dat (fm_elQ (hex.ext (ext_alloc _ _)) fun g hg hlt => (show (B ≤ g ∧ (Value.slice va (pre.length + 1) vc).ownBlock ≠ some g) ∧ g ≠ nb from ⟨⟨by omega, fun e => by have := (hrow7.own_ge e).2; omega⟩, by omega⟩)) (by go_light; rw [HML.out]; simp only [maxLen]; omega) (by go_light; rw [HML.out]; omega) (by go_light; simp; omega) ?_; intro g5 cap w5 hrow5 hgrow hat hlt5; rw [HML.out] at hrow5 ⊢))
      go_roundg (toGo (rUnit r3).st)
      case measure => have := HG2.out; have := st_left (rUnit_shrinks _) (Nat.le_refl r3.length); go_light; omega
      case rel =>
        have hob := HOB.out
        refine ⟨(rUnit r3).st, pre ++ [x4], rfl, (hst4.ext (ext_alloc _ _)).append hrow4 hrB hgrow, ?_, ?_, ?_, chg_grow ((hq7.trans hx4).alloc _) hgrow (fun g hg => by have := HOB.out g hg; omega), ?_, row_next rUnit_shrinks HA.out HAT.out hval⟩
        · simpa using hrow5
        · intro g hg
          injection hg with hg
          dsimp only at hg
          subst hg
          rcases hat with h1 | h1
          · exact hob _ h1
          · simp at h1; omega
        · exact own_append (hnw4.ext (ext_alloc _ _)) hgrow (fun e => by have := hob nb e; omega)
        · have := st_left (rUnit_shrinks _) (Nat.le_refl r3.length)
          simp; omega
    | false =>
      obtain ⟨hA, hS⟩ := row_end rUnit_shrinks HA.out hb
      rw [hb, hS] at HT
      replace HT := Lib.hid HT
      have HA2 := Lib.hid hA
      clear hA hS hb
      obtain ⟨oa, oc, ho, hoc, hod⟩ := GRow.datQ (by decide) hrow (fun g hg => by have := hob g hg; omega)
      rw [HML.out] at ho hoc
      injection ho with e1 _ e3
      subst e1; subst e3
      have hdat : IsFms (fun g => B ≤ g ∧ g ≠ nb) wr va (f :: pre) := by unfold IsFms; rw [Fm.dats_map]; exact hod
      have hsz := hq.size
      clear hod hoc hrow hob hlen
      have HO := Lib.hid (fun w' (hx : Chg [rb] wr w') => rof_any op (P := fun g => B ≤ g ∧ g ≠ nb) (l := f :: pre) (c := vc) (Dat.Rows.chg hdat hx (fun g hg => by simp; omega)) (by simp; omega))
      simp only [List.length_cons] at HO
      go_wp2_with (first | (go_at_call 132; refine (HT.out).mono ?_; rintro e w7 ⟨rfl, hc7, hx7⟩) | (go_at_call 86; refine (HO.out _ hx7).mono ?_; rintro e w8 ⟨⟨a8, c8, rfl, hc8, hf8⟩, hx8⟩; have hn8 := (hnw.chg hx7 (by simpa using hnc)).ext hx8; have hnl7 := (hnw.chg hx7 (by simpa using hnc)).lt; (obtain ⟨⟨n0, g0⟩, ⟨n1, g1⟩, ⟨n2, g2⟩, ⟨n3, g3⟩⟩ := hn8.cells4); have hnl8 := hn8.lt))
      refine rfin4 ((hq.trans hx7).trans (Chg.of_ext hx8)) hw1 hrn (hc7.ext hx8) hn8 (fun W2 r0 r1 r2 r3 => by simp [results, Tryz.results85, go_sem, r0, r1, r2, r3]) rfl fun W2 k1 k2 k3 => ⟨k2, ?_⟩
      rw [HA2.out]
      refine ⟨by cases st <;> exact k1, _, fOf op (f :: pre), rfl, ⟨_, _, _, _, rfl, fm_args (l := f :: pre) h0 h0' hc8 (Dat.Rows.mono (Dat.Rows.chg hf8 k3 (fun g hg => by simp at hg ⊢; omega)) fun g hg _ => by simp at hg; have := hx7.size; omega)⟩, fun x k he => ?_⟩
      cases st with
      | bad k => cases he
      | ok u k => injection he
end Go.Proofs.YtnclgkdpafhogaaGreat
