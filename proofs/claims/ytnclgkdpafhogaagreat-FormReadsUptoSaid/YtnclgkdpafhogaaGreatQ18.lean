/- The reference's Reader: Term with arguments. Condition: a row of at most 2^30 tokens, not empty.
Rows whose cells are copied; the reference's of. Condition: a row of at most 2^30.
The reference's Reader: bound, from what unit does. Condition: a row of at most 2^30 tokens, not empty.
The reference's Reader: atomic. Condition: a row of at most 2^30 tokens, not empty.
The reference's Reader: row, from what unit does. Condition: a row of at most 2^30 tokens, not empty. -/
import Derived.Test.YtnclgkdpafhogaaGreatQ17
import Derived.Test.YtnclgkdpafhogaaGreatQ15
namespace Go.Proofs.YtnclgkdpafhogaaGreat
open Go.ChangeShapes Go.WideShapes Go.ChangeAt Go.RowKit
/-- between two arguments: what the reader's block, the term's, the result's hold -/
def RTRel (rb : Nat) (l : List Tok) (V : World) (B xb nb : Nat) (nm : ByteArray) (m : Nat) (A : Rd (List Ex)) (g : Nat) (wr : World) : Prop :=
  ∃ (st : Rd Unit) (pre : List Ex) (vv : Value), g = toGo st ∧ RSt rb l wr st ∧ GRow (eltDat 3) 73 B wr vv (pre.map Ex.dat) ∧ Own wr xb [.bool false, .string nm, vv] ∧ Own wr nb [.bool false, .string ⟨#[]⟩, .slice none 0 0] ∧ Chg [rb, xb] V wr ∧
    pre.length + toGo st ≤ m ∧ A = st.bind fun _ r => (more rTerm sComma r).map (pre ++ ·)
theorem RSt.append {α : Type} {E : Elt α} {e B rb : Nat} {l : List Tok} {w w1 w2 : World} {st : Rd Unit} {v : Value} {m : List α} (h : RSt rb l w1 st) (hr : GRow E e B w v m) (hB : rb < B) (hg : w1.grownBy w2 v.ownBlock) : RSt rb l w2 st := by
  cases ho : v.ownBlock with
  | none =>
    rw [ho] at hg
    exact h.chg (S := []) (Chg.of_grown hg (by simp)) (by simp)
  | some g =>
    rw [ho] at hg
    have := (hr.own_ge ho).1
    exact h.chg (S := [g]) (Chg.of_grown hg (by simp)) (by simp; omega)
theorem rt_rel {rb : Nat} {l : List Tok} {V wr w4 w5 : World} {B xb nb : Nat} {nm : ByteArray} {m : Nat} {A : Rd (List Ex)} {st : Rd Unit} {pre : List Ex} {x' : Ex} {vv vv' : Value} {o : Obj}
    (hq : Chg [rb, xb] V wr) (hx4 : Chg [rb] wr w4) (hst : RSt rb l w4 st) (hrow4 : GRow (eltDat 3) 73 B w4 vv (pre.map Ex.dat)) (hxb : Own wr xb [.bool false, .string nm, vv]) (hnb : Own wr nb [.bool false, .string ⟨#[]⟩, .slice none 0 0])
    (hgrow : (w4.alloc o).grownBy w5 vv.ownBlock) (hrow5 : GRow (eltDat 3) 73 B w5 vv' (pre.map Ex.dat ++ [x'.dat])) (h1 : rb < xb) (h2 : xb < B) (h3 : nb < B) (h4 : nb ≠ xb) (h5 : nb ≠ rb) (hV : V.heap.size ≤ B)
    (hlen : pre.length + 1 + toGo st ≤ m) (hA : A = st.bind fun _ r => (more rTerm sComma r).map ((pre ++ [x']) ++ ·)) : RTRel rb l V B xb nb nm m A (toGo st) (w5.setCell ⟨xb, 2, none⟩ vv') := by
  have hset := (Chg.refl [xb] w5).setCell (p := ⟨xb, 2, none⟩) vv' (.inl (by simp))
  have hnot : ∀ b, b < B → vv.ownBlock ≠ some b := fun b hb e => by have := (hrow4.own_ge e).1; omega
  refine ⟨st, pre ++ [x'], vv', rfl, ((hst.ext (ext_alloc _ o)).append hrow4 (by omega) hgrow).chg hset (by simp; omega), ?_, ?_, ?_, ?_, by simp; omega, hA⟩
  · rw [List.map_append]
    exact hrow5.chg hset (by simp; omega)
  · exact (own_append ((hxb.chg hx4 (by simp; omega)).ext (ext_alloc _ o)) hgrow (hnot _ h2)).set (i := 2) (by simp) vv'
  · exact (own_append ((hnb.chg hx4 (by simpa using h5)).ext (ext_alloc _ o)) hgrow (hnot _ h3)).chg hset (by simpa using h4)
  · exact (chg_append (hq.trans (hx4.mono (by simp))) hrow4 hV (ext_alloc _ o) hgrow).trans (hset.mono (by simp))
set_option maxHeartbeats 16000000 in
set_option maxRecDepth 100000 in
theorem rterm_named {rb : Nat} {l : List Tok} (hl : l.length ≤ 1073741823) {n : Nat} (ih : RTermOK rb l n) {u : Unit} {t : Tok} {r : List Tok} {w : World} (h : RSt rb l w (.ok u (t :: r))) (hrn : r.length ≤ n) (hnm : t.named = true) :
    Calls Tryz.prog 170 #[.pointer (some ⟨rb, 0, none⟩)] w (RPost isEx' rb l w (rTerm (t :: r))) := by
  have h2 : t.kind ≠ 2 := fun h2 => by rw [named_two h2] at hnm; cases hnm
  have hl2 : l.length ≤ 1073741824 := by omega
  have HP := Lib.hid (fun w' (hx : Ext w w') => rpeek_any hl2 (h.ext hx))
  obtain ⟨a, c, p, hown, hp, hpk, hsuf, hmove, -⟩ := h.good
  have hlt := hown.lt
  have hsz := (h.toks t (hsuf.subset (by simp))).2.1
  obtain ⟨c1, f1⟩ := hown 1 _ rfl
  obtain ⟨c2, f2⟩ := hown 2 _ rfl
  have HM := Lib.hid hmove
  have HK := Lib.hid (show ((p : Int) + 1) = ((l.length - r.length : Nat) : Int) by have := hsuf.length_le; simp at this; simp at hpk; omega)
  have HR := Lib.hid ((List.suffix_cons t r).trans hsuf)
  have hp1 : (p : Int) + 1 ≤ 1073741824 := by have := hsuf.length_le; simp at this; simp at hpk; omega
  have hrl : r.length + 1 ≤ l.length := by have := hsuf.length_le; simpa using this
  have HE := Lib.hid (show rTerm (t :: r) = match takeS sLpar r with
        | none => .ok (.mk false t.text []) r
        | some r => (rowR rTerm sComma r).bind fun l r' => (mustS sRpar r').map fun _ => .mk false t.text l by rw [rTerm_eq, termStep_cons, if_neg h2, if_pos hnm]; rfl)
  have HNM := Lib.hid (fun w => rnamed_any (w := w) t hsz)
  rw [hnm] at HNM
  have HIH := Lib.hid ih
  clear hown h hmove hpk hsuf hnm ih
  obtain ⟨kd, tx, ta⟩ := t
  simp only at HE hsz
  have q1 : (kd == 2) = false := by rw [beq_eq_false_iff_ne]; exact h2
  clear h2
  simp only [Tok.vals] at HNM
  obtain ⟨W, hW⟩ : ∃ W, W = w.alloc (.cells #[.bool false, .string ⟨#[]⟩, .slice none 0 0] 73) := ⟨_, rfl⟩
  have hx : Ext w W := by rw [hW]; exact ext_alloc _ _
  have hnew : Own W w.heap.size [.bool false, .string ⟨#[]⟩, .slice none 0 0] := by rw [hW]; exact own3 w _ _ _ _
  obtain ⟨i0, hi0, hz0, hz1', hz2'⟩ := info_parts infoEx
  go_enter Tryz.func170, Tryz.ntmps170
  go_upto_region 12 with (first | (rw [← hW]; clear hW; go_at_call 84; refine (HP.out _ hx).mono ?_; rintro e w1 ⟨⟨t2, rfl, -, ht2⟩, hx1⟩; obtain rfl : t2 = ⟨kd, tx, ta⟩ := ht2 _ _ rfl; simp only [Tok.vals]; clear ht2; replace f1 := (hx.trans hx1).frozen c1 f1; replace c1 := (hx.trans hx1).cell c1; replace c2 := (hx.trans hx1).cell c2; replace hnew := hnew.ext hx1; have hlt1 : rb < w1.heap.size := cell_lt c1; have hlt2 := hnew.lt; (obtain ⟨n0, g0⟩ := hnew 0 _ rfl); (obtain ⟨n1, g1⟩ := hnew 1 _ rfl); (obtain ⟨n2, g2⟩ := hnew 2 _ rfl); have hne : w.heap.size ≠ rb := by omega) | (go_at_call 183; refine (HNM.out _).mono ?_; rintro e w2 ⟨rfl, hx2'⟩; have hx2 := (ext_alloc _ _).trans hx2'; (have hne2 : w1.heap.size ≠ rb := by omega); have t1 := (((own3 w1 (.int .i64 kd) (.string tx) (.int .i64 ta) 77).ext hx2') 1 _ rfl).1; clear hx2' n0 n1 n2 g0 g1 g2 hlt1 hlt2; replace f1 := hx2.frozen c1 f1; replace c1 := hx2.cell c1; replace hnew := hnew.ext hx2; have hlt1 : rb < w2.heap.size := cell_lt c1; have hlt2 := hnew.lt))
  have hchV : Chg [rb] w2 (w2.setCell ⟨rb, 1, none⟩ (.int .i64 ((p : Int) + 1))) := (Chg.refl [rb] w2).setCell _ (.inl (by simp))
  have HV := Lib.hid (HM.out w2 (Chg.of_ext ((hx.trans hx1).trans hx2)) r _ HR.out HK.out)
  obtain ⟨V1, hV1⟩ : ∃ V1, V1 = w2.setCell ⟨rb, 1, none⟩ (.int .i64 ((p : Int) + 1)) := ⟨_, rfl⟩
  rw [← hV1] at hchV HV ⊢
  have hz1 := hchV.size
  have hzV : V1.heap.size = w2.heap.size := by rw [hV1]; simp [World.setCell]
  have HZ := Lib.hid hzV
  have hxb := own3 V1 (.bool false) (.string tx) (.slice none 0 0) 73
  have hnV := (hnew.chg hchV (by simpa using hne)).ext (ext_alloc V1 (.cells #[.bool false, .string tx, .slice none 0 0] 73))
  have hcV := HV.out.ext (ext_alloc V1 (.cells #[.bool false, .string tx, .slice none 0 0] 73))
  have hqV : Chg [rb] w (V1.alloc (.cells #[.bool false, .string tx, .slice none 0 0] 73)) := (((Chg.of_ext ((hx.trans hx1).trans hx2)).trans hchV).alloc _)
  rw [hzV] at hxb
  clear hchV HV hV1 hz1 hzV HZ hnew c1 f1 t1 c2 f2
  generalize V1.alloc (.cells #[.bool false, .string tx, .slice none 0 0] 73) = V at *
  have hxn : w2.heap.size ≠ w.heap.size := by omega
  have hwx : w.heap.size < w2.heap.size := hlt2
  clear hx hx1 hx2 hne2 hlt1 hlt2 HP HNM
  generalize w1.heap.size = tb at *
  generalize w2.heap.size = xb at *
  have hcx : rb < xb := by omega
  have hcx' : xb ≠ rb := by omega
  have HT := rtake_any hl2 hcV sLpar
  cases ht : takeS sLpar r with
  | none =>
    rw [ht] at HE
    rw [(takeSt_none ht).1, (takeSt_none ht).2] at HT
    replace HT := Lib.hid HT
    clear ht
    simp only [sLpar] at HT
    go_wp2_with (go_at_call 132; refine (HT.out).mono ?_; rintro e w3 ⟨rfl, hc3, hx3⟩; have hxb3 := hxb.chg hx3 (by simpa using hcx'); have hnV3 := hnV.chg hx3 (by simpa using hne); (obtain ⟨m0, -⟩ := hxb3 0 _ rfl); (obtain ⟨m1, -⟩ := hxb3 1 _ rfl); (obtain ⟨m2, -⟩ := hxb3 2 _ rfl); (obtain ⟨n0, g0⟩ := hnV3 0 _ rfl); (obtain ⟨n1, g1⟩ := hnV3 1 _ rfl); (obtain ⟨n2, g2⟩ := hnV3 2 _ rfl))
    have hres := own_set3 hnV3 (.bool false) (.string tx) (.slice none 0 0)
    have hch := chg_set3 w3 w.heap.size (.bool false) (.string tx) (.slice none 0 0)
    have hcf := hc3.chg hch (by simp; omega)
    have hcq := Chg.drop (T := [rb]) (Below.refl _ _) (((hqV.trans hx3).mono (T := [rb, w.heap.size]) (by simp)).trans (hch.mono (by simp))) (by simp)
    clear hch m0 m1 m2 n0 n1 n2 g0 g1 g2
    generalize ((w3.setCell ⟨w.heap.size, 0, none⟩ (.bool false)).setCell ⟨w.heap.size, 1, none⟩ (.string tx)).setCell ⟨w.heap.size, 2, none⟩ (.slice none 0 0) = W2 at *
    obtain ⟨r0, r1, r2⟩ := own_res3 hres
    refine bodyPost_ret (v := .agg #[.bool false, .string tx, .slice none 0 0]) (by simp [results, Tryz.results170, go_sem, r0, r1, r2]) rfl ⟨hcq, ?_⟩
    rw [HE.out]
    exact ⟨hcf, _, _, rfl, ⟨_, _, _, rfl, ex_leaf false hsz⟩, fun x r he => by injection he⟩
  | some r1 =>
    have hr1 := takeS_lt ht
    rw [ht] at HE
    rw [(takeSt_some ht).1, (takeSt_some ht).2] at HT
    replace HT := Lib.hid HT
    simp only at HE
    clear ht
    simp only [sLpar] at HT
    have HTT := Lib.hid (fun w' (h : RSt rb l w' (.ok () r1)) => HIH.out r1 () (by omega) w' h)
    unfold RPost at HTT
    go_upto_region 14 with (go_at_call 132; refine (HT.out).mono ?_; rintro e w3 ⟨rfl, hc3, hx3⟩)
    have hxb3 := hxb.chg hx3 (by simpa using hcx')
    have hnV3 := hnV.chg hx3 (by simpa using hne)
    have hq3 := hqV.trans hx3
    have hxl := hxb3.lt
    clear hxb hnV hcV hqV hx3 HT
    obtain ⟨p2, y2⟩ := hxb3 2 _ rfl
    have hrow : GRow (eltDat 3) 73 w3.heap.size w3 (.slice none 0 0) (([] : List Ex).map Ex.dat) := GRow.nil
    have hrbl := hc3.lt
    go_cut [] from 46 to 52 (fun wx => ∃ g, RTRel rb l w3 w3.heap.size xb w.heap.size tx (r1.length + 1) (rowR rTerm sComma r1) g wx)
    case first =>
      go_region_law ((first
        | (go_simp; go_at_call 170; refine (HTT.out _ (hc3.ext (Ext.drew (Below.refl _ w3)))).mono ?_; rintro e w4 ⟨hx4', hst4, v4, x4, rfl, ⟨xa, xv, xc, rfl, hex⟩, hval⟩; (have hx4 : Chg [rb] w3 w4 := (Chg.of_ext (Ext.drew (Below.refl _ w3))).trans hx4'); (have hrow4 := hrow.chg hx4 (by simpa using hrbl)); (obtain ⟨d1, e1, rfl, rfl, rfl, -⟩ := hex.form); (have d5 := hx4.cell p2 (by simpa using hcx')); (have d6 := hx4.frozen p2 (by simpa using hcx') y2); (have d7 := (ext_alloc w4 (.cells #[.bool x4.var, .string x4.name, .slice d1 x4.args.length e1] 73)).cell d5); (try simp only []))
        | (refine step_append_row rfl (.tmp 47) (.tmp 50) _ rfl 73 i0 _ 48 Tryz.underlying26 hi0 hz0 hz1' hz2' rfl (by decide) w3.heap.size (.slice none 0 0) (([] : List Ex).map Ex.dat) (by rfl) w4 hrow4 (ext_alloc _ _) w4.heap.size (by rfl) _ _ (heap_alloc_new _ _) x4.dat (ex_el (hex.ext (ext_alloc _ _)) fun g hg hlt => (show w3.heap.size ≤ g ∧ (Value.slice none 0 0).ownBlock ≠ some g from ⟨by have : w3.drew.heap.size ≤ g := hg; simpa using this, fun e => by cases e⟩)) (by decide) (by decide) (by have := hx4.size; simp; omega) ?_; intro g cap w5 hrow5 hgrow hat hlt5; (have hfar : (some (⟨xb, 2, none⟩ : Addr).block) ≠ (Value.slice none 0 0).ownBlock := fun e => by cases e); (have hlt6 : (⟨xb, 2, none⟩ : Addr).block < (w4.alloc (.cells #[.bool x4.var, .string x4.name, .slice d1 x4.args.length e1] 73)).heap.size := Nat.lt_of_lt_of_le (cell_lt d5) (ext_alloc w4 _).size); (have e5 := (hgrow.cell_far ⟨xb, 2, none⟩ hlt6 hfar).trans ((ext_alloc w4 _).cell d5)); (have e6 := (hgrow.frozen_far ⟨xb, 2, none⟩ hlt6 hfar).trans ((ext_alloc w4 _).frozen d5 d6)))))
      all_goals
        go_wp2_with fail
        go_meet
        exact ⟨_, rt_rel (pre := []) (Chg.refl _ _) hx4 hst4 hrow4 hxb3 hnV3 hgrow hrow5 hcx hxl (by omega) (Ne.symm hxn) hne (Nat.le_refl _) (by have := st_left (rTerm_shrinks _) (Nat.le_refl r1.length); simp; omega) (row_first hval)⟩
    case rest =>
      generalize wc = w6 at hcut ⊢
      obtain ⟨g6, hr6⟩ := hcut
      have HC6 := Lib.hid hr6
      clear hr6
      obtain ⟨B, hB⟩ : ∃ B, B = w3.heap.size := ⟨_, rfl⟩
      rw [← hB] at HC6 hxl
      have hB1 : w3.heap.size ≤ B := by omega
      have hB0 : B ≤ w3.heap.size := by omega
      have hB2 : w.heap.size < B := by omega
      clear hB hc3 hxb3 hnV3 p2 y2 hrow hrbl HTT
      go_wp2_with fail
      go_loopg [] g6 (fun g wr => RTRel rb l w3 B xb w.heap.size tx (r1.length + 1) (rowR rTerm sComma r1) g wr)
      case atStart => exact HC6.out
      case round =>
        obtain ⟨st, pre, vv, hg, hst, hrow, hxb, hnb, hq, hlen, hA⟩ := hrel
        have HG := Lib.hid hg
        have HA := Lib.hid hA
        have HML := Lib.hid (show (pre.map Ex.dat).length = pre.length by simp)
        obtain ⟨va, vc, hv, hvc⟩ := hrow.form
        rw [HML.out] at hv hvc
        subst hv
        clear hg hA HC6
        have HT := rtake_any hl2 hst sComma
        have hpl : pre.length ≤ 1073741823 := by omega
        cases hb : takeB sComma st with
        | false =>
          obtain ⟨hA, hS⟩ := row_end rTerm_shrinks HA.out hb
          have HA2 := Lib.hid hA
          rw [hb, hS] at HT
          replace HT := Lib.hid HT
          clear hA hS hb
          simp only [sComma] at HT
          have HM2 := Lib.hid (fun w' (h : RSt rb l w' st) => rmust_any hl2 h sRpar)
          simp only [sRpar] at HM2
          obtain ⟨oa, oc, ho, hoc, hod⟩ := GRow.dat (by decide) hrow
          rw [HML.out] at ho hoc
          injection ho with e1 _ e3
          subst e1; subst e3
          have hxl2 := hxb.lt
          have hdat : Dat.Rows (fun g => B ≤ g) wr va (pre.map Ex.dat) := hod
          clear hod hoc
          go_wp2_with (first | (go_at_call 132; refine (HT.out).mono ?_; rintro e w7 ⟨rfl, hc7, hx7⟩) | (go_at_call 134; refine (HM2.out _ hc7).mono ?_; rintro e w8 ⟨rfl, hc8, hx8⟩; have hxb8 := (hxb.chg hx7 (by simpa using hcx')).chg hx8 (by simpa using hcx'); have hnb8 := (hnb.chg hx7 (by simpa using hne)).chg hx8 (by simpa using hne); (obtain ⟨m0, -⟩ := hxb8 0 _ rfl); (obtain ⟨m1, -⟩ := hxb8 1 _ rfl); (obtain ⟨m2, -⟩ := hxb8 2 _ rfl); (obtain ⟨n0, g0⟩ := hnb8 0 _ rfl); (obtain ⟨n1, g1⟩ := hnb8 1 _ rfl); (obtain ⟨n2, g2⟩ := hnb8 2 _ rfl)))
          have hres := own_set3 hnb8 (.bool false) (.string tx) (.slice va pre.length vc)
          have hch := chg_set3 w8 w.heap.size (.bool false) (.string tx) (.slice va pre.length vc)
          have hcf := hc8.chg hch (by simp; omega)
          have h78 : Chg [rb, w.heap.size] wr _ := ((hx7.trans hx8).mono (T := [rb, w.heap.size]) (by simp)).trans (hch.mono (by simp))
          have hcq := Chg.drop (T := [rb]) (Below.refl _ _) ((((hq3.mono (T := [rb, xb, w.heap.size]) (by simp)).trans (hq.mono (by simp))).trans (h78.mono (by simp)))) (by simp; omega)
          have hdat' := Dat.Rows.mono (Dat.Rows.chg hdat h78 (fun b hb => by simp; omega)) (Q := fun g => w.heap.size ≤ g) (fun b hb _ => by omega)
          clear hch m0 m1 m2 n0 n1 n2 g0 g1 g2 h78
          generalize ((w8.setCell ⟨w.heap.size, 0, none⟩ (.bool false)).setCell ⟨w.heap.size, 1, none⟩ (.string tx)).setCell ⟨w.heap.size, 2, none⟩ (.slice va pre.length vc) = W2 at *
          obtain ⟨r0, r1', r2⟩ := own_res3 hres
          refine bodyPost_ret (v := .agg #[.bool false, .string tx, .slice va pre.length vc]) (by simp [results, Tryz.results170, go_sem, r0, r1', r2]) rfl ⟨hcq, ?_⟩
          rw [HE.out, HA2.out]
          refine ⟨?_, _, .mk false tx pre, rfl, ⟨_, _, _, rfl, IsEx.mk' hsz hvc (by unfold IsExs; rw [Ex.dats_map]; exact hdat')⟩, fun x k he => ?_⟩
          · cases st with
            | bad k => exact hcf
            | ok u k =>
              simp only [Rd.map_ok, Rd.bind_ok] at hcf ⊢
              cases hm : mustS sRpar k with
              | bad k2 => simp only [sRpar] at hm; rw [hm] at hcf; exact hcf
              | ok u2 k2 => simp only [sRpar] at hm; rw [hm] at hcf; exact hcf
          · cases st with
            | bad k => cases he
            | ok u k =>
              simp only [Rd.map_ok, Rd.bind_ok] at he
              cases hm : mustS sRpar k with
              | bad k2 => rw [hm] at he; cases he
              | ok u2 k2 => rw [hm] at he; injection he
        | true =>
          obtain ⟨r2, r3, rfl, ht, hS, hr3⟩ := take_true hb
          rw [hb, hS] at HT
          replace HT := Lib.hid HT
          clear hS hb
          simp only [sComma] at HT
          have HTT := Lib.hid (fun w' (h : RSt rb l w' (.ok () r3)) => HIH.out r3 () (by simp only [toGo] at hlen; omega) w' h)
          unfold RPost at HTT
          have HAT := Lib.hid ht
          have hlen2 : pre.length + (r2.length + 1) ≤ r1.length + 1 := hlen
          have HG2 := Lib.hid (show _ = r2.length + 1 from HG.out)
          clear ht hlen HG
          go_upto_region 16 with (go_at_call 132; refine (HT.out).mono ?_; rintro e w7 ⟨rfl, hc7, hx7⟩)
          have hxb7 := hxb.chg hx7 (by simpa using hcx')
          have hnb7 := hnb.chg hx7 (by simpa using hne)
          have hrow7 := hrow.chg hx7 (by simp; omega)
          have hq7 := hq.trans (hx7.mono (T := [rb, xb]) (by simp))
          have hsz7 := hq7.size
          have hown2 : ∀ g, (Value.slice va pre.length vc).ownBlock = some g → B ≤ g ∧ g < w7.heap.size := fun g hg => hrow7.own_ge hg
          obtain ⟨p2, y2⟩ := hxb7 2 _ rfl
          clear hxb hnb hrow hq hst hx7 HT
          go_region_law ((first
            | (go_simp; go_at_call 170; refine (HTT.out _ (hc7.ext (Ext.drew (Below.refl _ w7)))).mono ?_; rintro e w4 ⟨hx4', hst4, v4, x4, rfl, ⟨xa, xv, xc, rfl, hex⟩, hval⟩; (have hx4 : Chg [rb] w7 w4 := (Chg.of_ext (Ext.drew (Below.refl _ w7))).trans hx4'); (have hrow4 := hrow7.chg hx4 (by simp; omega)); (obtain ⟨d1, e1, rfl, rfl, rfl, -⟩ := hex.form); (have d5 := hx4.cell p2 (by simpa using hcx')); (have d6 := hx4.frozen p2 (by simpa using hcx') y2); (have d7 := (ext_alloc w4 (.cells #[.bool x4.var, .string x4.name, .slice d1 x4.args.length e1] 73)).cell d5); (try simp only []))
            | (refine step_append_row rfl (.tmp 56) (.tmp 59) _ rfl 73 i0 _ 48 Tryz.underlying26 hi0 hz0 hz1' hz2' rfl (by decide) B (.slice va pre.length vc) (pre.map Ex.dat) (by rfl) w4 hrow4 (ext_alloc _ _) w4.heap.size (by rfl) _ _ (heap_alloc_new _ _) x4.dat (ex_el (hex.ext (ext_alloc _ _)) fun g hg hlt => (show B ≤ g ∧ (Value.slice va pre.length vc).ownBlock ≠ some g from ⟨by have h2 : w7.drew.heap.size ≤ g := hg; simp at h2; omega, fun e => by have h1 := hown2 g e; have h2 : w7.drew.heap.size ≤ g := hg; simp at h2; omega⟩)) (by rw [HML.out]; simp only [maxLen]; omega) (by rw [HML.out]; omega) (by have := hx4.size; simp; omega) ?_; intro g5 cap w5 hrow5 hgrow hat hlt5; rw [HML.out] at hrow5 ⊢; (have hfar : (some (⟨xb, 2, none⟩ : Addr).block) ≠ (Value.slice va pre.length vc).ownBlock := fun e => by have := hown2 _ e.symm; simp only at this; omega); (have hlt6 : (⟨xb, 2, none⟩ : Addr).block < (w4.alloc (.cells #[.bool x4.var, .string x4.name, .slice d1 x4.args.length e1] 73)).heap.size := Nat.lt_of_lt_of_le (cell_lt d5) (ext_alloc w4 _).size); (have e5 := (hgrow.cell_far ⟨xb, 2, none⟩ hlt6 hfar).trans ((ext_alloc w4 _).cell d5)); (have e6 := (hgrow.frozen_far ⟨xb, 2, none⟩ hlt6 hfar).trans ((ext_alloc w4 _).frozen d5 d6)))))
          all_goals
            go_wp2_with fail
            go_roundg (toGo (rTerm r3).st)
            case measure => have := HG2.out; have := st_left (rTerm_shrinks _) (Nat.le_refl r3.length); go_light; omega
            case rel => exact rt_rel hq7 hx4 hst4 hrow4 hxb7 hnb7 hgrow hrow5 hcx hxl hB2 (Ne.symm hxn) hne hB1 (by have := st_left (rTerm_shrinks _) (Nat.le_refl r3.length); omega) (row_next rTerm_shrinks HA.out HAT.out hval)
theorem rterm_any {rb : Nat} {l : List Tok} (hl : l.length ≤ 1073741823) : ∀ n, RTermOK rb l n
  | 0 => fun ks u hk w h => by
    have : ks = [] := List.eq_nil_of_length_eq_zero (by omega)
    subst this
    exact rterm_bad (by omega) h (by decide) rfl
  | n + 1 => fun ks u hk w h => by
    by_cases h2 : (peekT ks).kind = 2
    · cases ks with
      | nil => exact absurd h2 (by decide)
      | cons t r => exact rterm_var (by omega) h h2
    · cases hn : (peekT ks).named with
      | false => exact rterm_bad (by omega) h h2 hn
      | true =>
        cases ks with
        | nil => exact absurd hn (by decide)
        | cons t r => exact rterm_named hl (rterm_any hl n) h (by simpa using hk) hn
end Go.Proofs.YtnclgkdpafhogaaGreat
namespace Go.Proofs.YtnclgkdpafhogaaGreat
open Go.ChangeShapes Go.WideShapes Go.ChangeAt Go.RowKit
theorem addr_add (b o j : Nat) : (⟨b, o, none⟩ : Addr).add j = ⟨b, o + j, none⟩ := by unfold Addr.add; split <;> simp_all
/-- the cells of a row, one behind the other -/
theorem Dat.Rows.cells {P : Nat → Prop} {w : World} {m : Nat} : ∀ {L : List (List Dat)} {b o : Nat}, Dat.Rows P w (some ⟨b, o, none⟩) L → (∀ e ∈ L, e.length = m) →
    ∃ css : List (List Value), css.length = L.length ∧ (∀ j (h : j < css.length) (h' : j < L.length), Dat.Fs P w css[j] L[j]) ∧ (∀ c ∈ css, c.length = m) ∧ ∀ j u, css.flatten[j]? = some u → w.cell? ⟨b, o + j, none⟩ = some u
  | [], _, _, _, _ => ⟨[], rfl, fun j h => by simp at h, by simp, fun j u h => by simp at h⟩
  | e :: L, b, o, h, hm => by
    obtain ⟨b', o', vs, h1, -, -, h2, h3, h4⟩ := h
    injection h1 with h1
    injection h1 with e1 e2 _
    subst e1; subst e2
    have he := hm e (by simp)
    obtain ⟨css, g1, g2, g3, g4⟩ := Dat.Rows.cells h4 (fun x hx => hm x (by simp [hx]))
    have hv : vs.length = m := by rw [h3.length, he]
    refine ⟨vs :: css, by simp [g1], fun j hj hj' => ?_, fun c hc => ?_, fun j u hu => ?_⟩
    · cases j with
      | zero => exact h3
      | succ j => exact g2 j (by simpa using hj) (by simpa using hj')
    · rcases List.mem_cons.1 hc with rfl | hc
      · exact hv
      · exact g3 c hc
    · rw [List.flatten_cons] at hu
      rcases Nat.lt_or_ge j vs.length with hj | hj
      · rw [List.getElem?_append_left hj] at hu; exact h2 j u hu
      · rw [List.getElem?_append_right hj] at hu
        have := g4 _ _ hu
        rw [he, show o + m + (j - vs.length) = o + j by omega] at this
        exact this
/-- a row whose cells are another one's -/
theorem Dat.Rows.copied {P : Nat → Prop} {w w' : World} {m e B n : Nat} {v : Value} {L : List (List Dat)} {css : List (List Value)} (hm : 0 < m) (hc : css.length = L.length) (hf : ∀ j (h : j < css.length) (h' : j < L.length), Dat.Fs P w css[j] L[j]) (hl : ∀ c ∈ css, c.length = m)
    (ho : w'.ownsRow B e m v n css.flatten) (hn : n = L.length) (h0 : 0 < n) (hx : Ext w w') : ∃ a c, v = .slice a n c ∧ n ≤ c ∧ Dat.Rows (fun g => P g ∨ B ≤ g) w' a L := by
  obtain ⟨g, cap, rfl, hb, hlt⟩ := ho.form h0
  have hcap : n ≤ cap := by
    rcases ho.2 with ⟨h1, -⟩ | ⟨g', cap', cur, h1, -, -, h4, -⟩
    · cases h1
    · injection h1 with _ _ h1; subst h1; exact h4
  refine ⟨_, _, rfl, hcap, ?_⟩
  have hlen : ∀ e ∈ L, e.length = m := by
    intro x hx
    obtain ⟨i, hi, rfl⟩ := List.getElem_of_mem hx
    rw [← (hf i (by omega) hi).length]
    exact hl _ (List.getElem_mem _)
  refine Dat.Rows.of_at (.inr hb) hm hlen fun i hi => ⟨css[i]'(by omega), fun j u hu => ?_, ((hf i (by omega) hi).ext hx).mono fun b hb _ => .inl hb⟩
  have hj : j < m := by
    have := hl _ (List.getElem_mem (show i < css.length by omega))
    rcases Nat.lt_or_ge j (css[i]'(by omega)).length with h1 | h1
    · omega
    · rw [List.getElem?_eq_none h1] at hu; cases hu
  have := ho.cells (g := g) rfl (i * m + j) u (by rw [flatten_at css hl i (by omega) j hj]; exact hu)
  rw [addr_add] at this
  simpa using this
theorem Dat.Fs.flat_one {P : Nat → Prop} {w : World} {L : List (List Dat)} {css : List (List Value)} (hc : css.length = L.length) (hf : ∀ j (h : j < css.length) (h' : j < L.length), Dat.Fs P w css[j] L[j]) : ∀ u ∈ css.flatten, u.oneCell' = true := by
  intro u hu
  obtain ⟨c, hc1, hu⟩ := List.mem_flatten.1 hu
  obtain ⟨j, hj, rfl⟩ := List.getElem_of_mem hc1
  exact (hf j hj (by omega)).one u hu
theorem flat_len {css : List (List Value)} {m : Nat} (hl : ∀ c ∈ css, c.length = m) : css.flatten.length = css.length * m := by
  induction css with
  | nil => simp
  | cons c css ih =>
    rw [List.flatten_cons, List.length_append, hl c (by simp), ih (fun x hx => hl x (by simp [hx])), List.length_cons, Nat.add_mul]; omega
set_option maxHeartbeats 2000000 in
set_option maxRecDepth 100000 in
theorem rof_any (op : Int) {P : Nat → Prop} {l : List Fm} {w : World} {a : Option Addr} {c : Nat} (h : IsFms P w a l) (hl : l.length ≤ 1073741824) :
    Calls Tryz.prog 86 #[.int .i64 op, .slice a l.length c] w fun e w' => (∃ a' c', e = .returned (.agg #[.int .i64 op, .slice none 0 0, .slice none 0 0, .slice a' l.length c']) ∧ l.length ≤ c' ∧ IsFms (fun g => P g ∨ w.heap.size ≤ g) w' a' l) ∧ Ext w w' := by
  obtain ⟨W, hW⟩ : ∃ W, W = w.alloc (.cells #[.int .i64 0, .slice none 0 0, .slice none 0 0, .slice none 0 0] 29) := ⟨_, rfl⟩
  have hx : Ext w W := by rw [hW]; exact ext_alloc _ _
  have hnew : Own W w.heap.size [.int .i64 0, .slice none 0 0, .slice none 0 0, .slice none 0 0] := by rw [hW]; exact own4 w _ _ _ _ _
  have hsW : w.heap.size < W.heap.size := hnew.lt
  rcases Nat.eq_zero_or_pos l.length with h0 | h0
  · have hl0 : l = [] := List.length_eq_zero_iff.1 h0
    subst hl0
    obtain ⟨j0, hj0, jz0, jz1', jz2'⟩ := info_parts infoFm
    clear h0
    simp only [List.length_nil]
    subst hW
    cases a with
    | none =>
      have hap : ∀ w, (Builtin.append_ #[27, 27] 27 #[.slice none 0 0, .slice none 0 c]).run Tryz.prog w = .ok (.slice none 0 0) w := fun w => by
        simp [Builtin.append_, run_underlying Tryz.underlying27, sizeOf, typeInfo, hj0, Builtin.lenOf, Builtin.firstCells, storeCells]
      go_enter Tryz.func86, Tryz.ntmps86
      go_wp2
      refine bodyPost_ret (v := .agg #[.int .i64 op, .slice none 0 0, .slice none 0 0, .slice none 0 0]) (by simp [results, Tryz.results86, go_sem]) rfl ?_
      exact ⟨⟨none, 0, rfl, Nat.le_refl _, fms_nil⟩, ext_alloc _ _⟩
    | some ad =>
      have hap : ∀ w, (Builtin.append_ #[27, 27] 27 #[.slice none 0 0, .slice (some ad) 0 c]).run Tryz.prog w = .ok (.slice none 0 0) w := fun w => by
        simp [Builtin.append_, run_underlying Tryz.underlying27, sizeOf, typeInfo, hj0, Builtin.lenOf, Builtin.firstCells, storeCells]
        rfl
      go_enter Tryz.func86, Tryz.ntmps86
      go_wp2
      refine bodyPost_ret (v := .agg #[.int .i64 op, .slice none 0 0, .slice none 0 0, .slice none 0 0]) (by simp [results, Tryz.results86, go_sem]) rfl ?_
      exact ⟨⟨none, 0, rfl, Nat.le_refl _, fms_nil⟩, ext_alloc _ _⟩
  · have hlen : (Fm.dats l).length = l.length := by rw [Fm.dats_map, List.length_map]
    replace h : Dat.Rows (fun g => P g ∧ g < w.heap.size) w a (Fm.dats l) := Dat.Rows.mono h fun g hg hlt => ⟨hg, hlt⟩
    obtain ⟨b, o, rfl, hb⟩ := Dat.Rows.addr h (by omega)
    obtain ⟨css, k1, k2, k3, k4⟩ := Dat.Rows.cells (m := 4) h (fun e he => by rw [Fm.dats_map] at he; obtain ⟨x, -, rfl⟩ := List.mem_map.1 he; exact x.dat_length)
    have hfl : css.flatten.length = l.length * 4 := by rw [flat_len k3, k1, hlen]
    have HC := Lib.hid (fun j u hu => (by rw [addr_add]; exact hx.cell (k4 j u hu) : W.cell? ((⟨b, o, none⟩ : Addr).add j) = some u))
    have H1 := Lib.hid (Dat.Fs.flat_one k1 k2)
    obtain ⟨j0, hj0, jz0, jz1', jz2'⟩ := info_parts infoFm
    have HK := Lib.hid (And.intro k1 (And.intro k2 k3))
    have HFL := Lib.hid hfl
    have hpos : 0 < l.length := h0
    have HLen := Lib.hid hlen
    clear k1 k2 k3 k4 h h0 hfl hlen
    go_enter Tryz.func86, Tryz.ntmps86
    go_wp2_with (first | (at_builtin; rw [← hW]; refine wpList_append_lies _ rfl _ _ _ rfl W.heap.size 29 j0 _ 4 80 Tryz.underlying27 hj0 jz0 jz1' jz2' rfl (by decide) (.slice none 0 0) 0 [] rfl (World.ownsRow_nil _ _ _ _) ⟨b, o, none⟩ l.length c css.flatten rfl HFL.out HC.out H1.out hpos (by simp only [maxLen]; omega) (by omega) (Nat.le_refl _) _ rfl ?_; intro g cap w2 hown2 hgrow hat hlt; have hx2 : Ext W w2 := ⟨hgrow.os, hgrow.tape, hgrow.output, hgrow.size, fun k hk => hgrow.block k hk (by simp [Value.ownBlock])⟩; have hn2 := hnew.ext hx2; (obtain ⟨⟨n0, g0⟩, ⟨n1, g1⟩, ⟨n2, g2⟩, ⟨n3, g3⟩⟩ := hn2.cells4); simp only [Nat.zero_add, List.nil_append] at hown2 ⊢))
    have hres := own_set4 hn2 (.int .i64 op) (.slice none 0 0) (.slice none 0 0) (.slice (some ⟨g, 0, none⟩) l.length cap)
    have hch := chg_set4 w2 w.heap.size (.int .i64 op) (.slice none 0 0) (.slice none 0 0) (.slice (some ⟨g, 0, none⟩) l.length cap)
    obtain ⟨q1, q2, q3⟩ := HK.out
    obtain ⟨a2, c2, hv, hc2, hrows⟩ := Dat.Rows.copied (by decide) q1 q2 q3 hown2 HLen.out.symm hpos (hx.trans hx2)
    injection hv with e1 _ e3
    subst e1; subst e3
    clear n0 n1 n2 n3 g0 g1 g2 g3
    obtain ⟨r0, r1, r2, r3⟩ := own_res4 hres
    refine bodyPost_ret (v := .agg #[.int .i64 op, .slice none 0 0, .slice none 0 0, .slice (some ⟨g, 0, none⟩) l.length cap]) (by simp [results, Tryz.results86, go_sem, r0, r1, r2, r3]) rfl ?_
    exact ⟨⟨_, _, rfl, hc2, Dat.Rows.mono (Dat.Rows.chg hrows hch (fun g hg => by simp; rcases hg with h1 | h1 <;> omega)) fun g hg _ => hg.imp (fun h => h.1) fun h => by omega⟩, Chg.ext (hx.trans hx2) hch (by simp)⟩
end Go.Proofs.YtnclgkdpafhogaaGreat
namespace Go.Proofs.YtnclgkdpafhogaaGreat
open Go.ChangeShapes Go.WideShapes Go.ChangeAt Go.RowKit
def RUnitOK (rb : Nat) (l : List Tok) (n : Nat) : Prop := ∀ st, toGo st ≤ n + 1 → ∀ w, RSt rb l w st → Calls Tryz.prog 83 #[.pointer (some ⟨rb, 0, none⟩)] w (RPost isFm' rb l w (st.bind fun _ ks => rUnit ks))
theorem row_first_st {α : Type} {one : List Tok → Rd α} {sep : ByteArray} {st : Rd Unit} {x' : α} (hv : ∀ x r, (st.bind fun _ ks => one ks) = .ok x r → x' = x) : (st.bind fun _ r => rowR one sep r) = (st.bind fun _ ks => one ks).st.bind fun _ r => (more one sep r).map ([x'] ++ ·) := by
  cases st with
  | bad r => rfl
  | ok u r => exact row_first hv
theorem left_bind {α : Type} {one : List Tok → Rd α} {st : Rd Unit} (hs : ∀ n, Shrinks one n) : toGo (st.bind fun _ ks => one ks).st + 1 ≤ toGo st ∨ toGo (st.bind fun _ ks => one ks).st = 0 := by
  cases st with
  | bad r => exact .inr rfl
  | ok u r =>
    simp only [Rd.bind_ok]
    cases h : one r with
    | bad r => exact .inr rfl
    | ok x k => have := hs _ r x k (Nat.le_refl _) h; exact .inl (by simp only [Rd.st, toGo]; omega)
theorem left_must {s : ByteArray} {st : Rd Unit} : toGo (st.bind fun _ ks => mustS s ks) ≤ toGo st := by
  cases st with
  | bad r => exact Nat.le_refl _
  | ok u r =>
    simp only [Rd.bind_ok]
    cases h : mustS s r with
    | bad r => exact Nat.zero_le _
    | ok x k => have := mustS_lt h; simp only [toGo]; omega
/-- a struct of four cells has been put into the result, a new block -/
theorem rfin4 {rb nb : Nat} {l : List Tok} {st : Rd Unit} {w w2 : World} {z0 z1 z2 z3 x0 x1 x2 x3 : Value} {fn : Func} {R : Ending → World → Prop} {a : Act} (hq : Chg [rb] w w2) (hnb : w.heap.size ≤ nb) (hcb : rb < nb) (hc : RSt rb l w2 st) (hn : Own w2 nb [z0, z1, z2, z3])
    (hr : ∀ W2 : World, W2.cell? ⟨nb, 0, none⟩ = some x0 → W2.cell? ⟨nb, 1, none⟩ = some x1 → W2.cell? ⟨nb, 2, none⟩ = some x2 → W2.cell? ⟨nb, 3, none⟩ = some x3 → (results fn a.tmps).run Tryz.prog W2 = .ok (.agg #[x0, x1, x2, x3]) W2)
    (hd : a.defers = []) (hR : ∀ W2, RSt rb l W2 st → Chg [rb] w W2 → Chg [nb] w2 W2 → R (.returned (.agg #[x0, x1, x2, x3])) W2) :
    bodyPost Tryz.prog fn R .ret a ((((w2.setCell ⟨nb, 0, none⟩ x0).setCell ⟨nb, 1, none⟩ x1).setCell ⟨nb, 2, none⟩ x2).setCell ⟨nb, 3, none⟩ x3) := by
  have hres := own_set4 hn x0 x1 x2 x3
  have hch := chg_set4 w2 nb x0 x1 x2 x3
  have hcq := Chg.drop (T := [rb]) (Below.refl _ _) ((hq.mono (T := [rb, nb]) (by simp)).trans (hch.mono (by simp))) (by simp; omega)
  obtain ⟨r0, r1, r2, r3⟩ := own_res4 hres
  exact bodyPost_ret (hr _ r0 r1 r2 r3) hd (hR _ (hc.chg hch (by simpa using hcb)) hcq hch)
/-- between two names: what the reader's block, the formula's, the result's hold -/
def RBRel (rb : Nat) (l : List Tok) (V : World) (B xb nb : Nat) (op : Int) (m : Nat) (A : Rd (List ByteArray)) (g : Nat) (wr : World) : Prop :=
  ∃ (st : Rd Unit) (pre : List ByteArray) (vv : Value), g = toGo st ∧ RSt rb l wr st ∧ GRow (eltDat 1) 9 B wr vv (pre.map strDat) ∧ Own wr xb [.int .i64 op, vv, .slice none 0 0, .slice none 0 0] ∧ Own wr nb [.int .i64 0, .slice none 0 0, .slice none 0 0, .slice none 0 0] ∧ Chg [rb, xb] V wr ∧
    pre.length + toGo st ≤ m ∧ A = st.bind fun _ r => (more (kindK 2) sComma r).map (pre ++ ·)
theorem rb_rel {rb : Nat} {l : List Tok} {V wr w4 w5 : World} {B xb nb : Nat} {op : Int} {m : Nat} {A : Rd (List ByteArray)} {st : Rd Unit} {pre : List ByteArray} {x' : ByteArray} {vv vv' : Value} {o : Obj}
    (hq : Chg [rb, xb] V wr) (hx4 : Chg [rb] wr w4) (hst : RSt rb l w4 st) (hrow4 : GRow (eltDat 1) 9 B w4 vv (pre.map strDat)) (hxb : Own wr xb [.int .i64 op, vv, .slice none 0 0, .slice none 0 0]) (hnb : Own wr nb [.int .i64 0, .slice none 0 0, .slice none 0 0, .slice none 0 0])
    (hgrow : (w4.alloc o).grownBy w5 vv.ownBlock) (hrow5 : GRow (eltDat 1) 9 B w5 vv' (pre.map strDat ++ [strDat x'])) (h1 : rb < xb) (h2 : xb < B) (h3 : nb < B) (h4 : nb ≠ xb) (h5 : nb ≠ rb) (hV : V.heap.size ≤ B)
    (hlen : pre.length + 1 + toGo st ≤ m) (hA : A = st.bind fun _ r => (more (kindK 2) sComma r).map ((pre ++ [x']) ++ ·)) : RBRel rb l V B xb nb op m A (toGo st) (w5.setCell ⟨xb, 1, none⟩ vv') := by
  have hset := (Chg.refl [xb] w5).setCell (p := ⟨xb, 1, none⟩) vv' (.inl (by simp))
  have hnot : ∀ b, b < B → vv.ownBlock ≠ some b := fun b hb e => by have := (hrow4.own_ge e).1; omega
  refine ⟨st, pre ++ [x'], vv', rfl, ((hst.ext (ext_alloc _ o)).append hrow4 (by omega) hgrow).chg hset (by simp; omega), ?_, ?_, ?_, ?_, by simp; omega, hA⟩
  · rw [List.map_append]
    exact hrow5.chg hset (by simp; omega)
  · exact (own_append ((hxb.chg hx4 (by simp; omega)).ext (ext_alloc _ o)) hgrow (hnot _ h2)).set (i := 1) (by simp) vv'
  · exact (own_append ((hnb.chg hx4 (by simpa using h5)).ext (ext_alloc _ o)) hgrow (hnot _ h3)).chg hset (by simpa using h4)
  · exact (chg_append (hq.trans (hx4.mono (by simp))) hrow4 hV (ext_alloc _ o) hgrow).trans (hset.mono (by simp))
set_option maxHeartbeats 16000000 in
set_option maxRecDepth 100000 in
theorem rbound_any {rb : Nat} {l : List Tok} (hl : l.length ≤ 1073741820) {n : Nat} (ih : RUnitOK rb l n) {u : Unit} {ks : List Tok} (hkn : ks.length ≤ n) {w : World} (h : RSt rb l w (.ok u ks)) (op : Int) (h0 : -9223372036854775808 ≤ op) (h0' : op ≤ 9223372036854775807) :
    Calls Tryz.prog 133 #[.pointer (some ⟨rb, 0, none⟩), .int .i64 op] w (RPost isFm' rb l w (boundStep rUnit op ks)) := by
  have hl2 : l.length ≤ 1073741824 := by omega
  have hlt := h.lt
  have hkl : ks.length ≤ l.length := by obtain ⟨_, _, _, _, _, _, hs, _⟩ := h.good; exact hs.length_le
  have HIH := Lib.hid ih
  clear ih
  obtain ⟨W, hW⟩ : ∃ W, W = (w.alloc (.cells #[.int .i64 0, .slice none 0 0, .slice none 0 0, .slice none 0 0] 29)).alloc (.cells #[.int .i64 op, .slice none 0 0, .slice none 0 0, .slice none 0 0] 29) := ⟨_, rfl⟩
  have hx : Ext w W := by rw [hW]; exact (ext_alloc _ _).alloc _
  have hnb0 : Own W w.heap.size [.int .i64 0, .slice none 0 0, .slice none 0 0, .slice none 0 0] := by rw [hW]; exact (own4 w _ _ _ _ _).ext (ext_alloc _ _)
  have hxb0 : Own W (w.heap.size + 1) [.int .i64 op, .slice none 0 0, .slice none 0 0, .slice none 0 0] := by
    rw [hW]; have := own4 (w.alloc (.cells #[.int .i64 0, .slice none 0 0, .slice none 0 0, .slice none 0 0] 29)) (.int .i64 op) (.slice none 0 0) (.slice none 0 0) (.slice none 0 0) 29
    rw [World.size_alloc] at this; exact this
  have hc0 := h.ext hx
  have hq0 : Chg [rb] w W := Chg.of_ext hx
  have HM := Lib.hid (rmust_any hl2 hc0 sLbra)
  simp only [sLbra] at HM
  obtain ⟨i0, hi0, hz0, hz1', hz2'⟩ := info_parts infoStr
  obtain ⟨j0, hj0, jz0, jz1', jz2'⟩ := info_parts infoFm
  have hE1 := Lib.hid (show boundStep rUnit op ks = ((mustS sLbra ks).bind fun _ r1 => rowR (kindK 2) sComma r1).bind fun vs r2 => (mustS sRbra r2).bind fun _ r3 => (mustS sColon r3).bind fun _ r4 => (rUnit r4).map fun f => .mk op vs [] [f] by
    unfold boundStep
    cases mustS sLbra ks <;> rfl)
  clear h hc0
  go_enter Tryz.func133, Tryz.ntmps133
  go_upto_region 3 with (rw [← hW]; clear hW; go_at_call 134; refine (HM.out).mono ?_; rintro e w1 ⟨rfl, hc1, hx1⟩)
  obtain ⟨nb, hnb⟩ : ∃ nb, nb = w.heap.size := ⟨_, rfl⟩
  obtain ⟨xb, hxb⟩ : ∃ xb, xb = w.heap.size + 1 := ⟨_, rfl⟩
  rw [← hxb] at hxb0
  rw [← hnb] at hnb0
  rw [← hxb, ← hnb]
  have hwn : w.heap.size ≤ nb := by omega
  have hwx : w.heap.size ≤ xb := by omega
  have hnc : nb ≠ rb := by omega
  have hxc : xb ≠ rb := by omega
  have hxn : nb ≠ xb := by omega
  have hrx : rb < xb := by omega
  have hrn : rb < nb := by omega
  clear hnb hxb hx
  have hq1 := hq0.trans hx1
  have hn1 := hnb0.chg hx1 (by simpa using hnc)
  have hx1b := hxb0.chg hx1 (by simpa using hxc)
  have hc1 : RSt rb l w1 (mustS sLbra ks) := hc1
  have hlm : toGo (mustS sLbra ks) ≤ ks.length := by
    cases hm : mustS sLbra ks with
    | bad r => exact Nat.zero_le _
    | ok u r => have := mustS_lt hm; simp only [toGo]; omega
  clear hx1 hq0 hnb0 hxb0 HM
  have HU := Lib.hid (fun w' (h : RSt rb l w' (mustS sLbra ks)) => rupper_any hl2 h)
  unfold RPost at HU
  generalize mustS sLbra ks = s1 at *
  obtain ⟨p2, y2⟩ := hx1b 1 _ rfl
  have hrow : GRow (eltDat 1) 9 w1.heap.size w1 (.slice none 0 0) (([] : List ByteArray).map strDat) := GRow.nil
  have hrbl := hc1.lt
  have hxl := hx1b.lt
  have hnl := hn1.lt
  go_cut [] from 10 to 16 (fun wx => ∃ g, RBRel rb l w1 w1.heap.size xb nb op (ks.length + 1) (s1.bind fun _ r1 => rowR (kindK 2) sComma r1) g wx)
  case first =>
    go_region_law ((first
      | (go_simp; go_at_call 169; refine (HU.out _ (hc1.ext (Ext.drew (Below.refl _ w1)))).mono ?_; rintro e w4 ⟨hx4', hst4, v4, x4, rfl, ⟨rfl, hsz4⟩, hval⟩; (have hx4 : Chg [rb] w1 w4 := (Chg.of_ext (Ext.drew (Below.refl _ w1))).trans hx4'); (have hrow4 := hrow.chg hx4 (by simpa using hrbl)); (have d5 := hx4.cell p2 (by simpa using hxc)); (have d6 := hx4.frozen p2 (by simpa using hxc) y2); (have d7 := (ext_alloc w4 (.cells #[.string x4] 9)).cell d5); (try simp only []))
      | (refine step_append_row rfl (.tmp 11) (.tmp 14) _ rfl 9 i0 _ 16 Tryz.underlying25 hi0 hz0 hz1' hz2' rfl (by decide) w1.heap.size (.slice none 0 0) (([] : List ByteArray).map strDat) (by rfl) w4 hrow4 (ext_alloc _ _) w4.heap.size (by rfl) _ _ (heap_alloc_new _ _) (strDat x4) (str_el hsz4) (by decide) (by decide) (by have := hx4.size; simp; omega) ?_; intro g cap w5 hrow5 hgrow hat hlt5; (have hfar : (some (⟨xb, 1, none⟩ : Addr).block) ≠ (Value.slice none 0 0).ownBlock := fun e => by cases e); (have hlt6 : (⟨xb, 1, none⟩ : Addr).block < (w4.alloc (.cells #[.string x4] 9)).heap.size := Nat.lt_of_lt_of_le (cell_lt d5) (ext_alloc w4 _).size); (have e5 := (hgrow.cell_far ⟨xb, 1, none⟩ hlt6 hfar).trans ((ext_alloc w4 _).cell d5)); (have e6 := (hgrow.frozen_far ⟨xb, 1, none⟩ hlt6 hfar).trans ((ext_alloc w4 _).frozen d5 d6)))))
    all_goals
      go_wp2_with fail
      go_meet
      exact ⟨_, rb_rel (pre := []) (Chg.refl _ _) hx4 hst4 hrow4 hx1b hn1 hgrow hrow5 hrx hxl hnl hxn hnc (Nat.le_refl _) (by have := left_bind (st := s1) (kindK_shrinks 2); simp; omega) (row_first_st hval)⟩
  case rest =>
    generalize wc = w6 at hcut ⊢
    obtain ⟨g6, hr6⟩ := hcut
    have HC6 := Lib.hid hr6
    clear hr6
    obtain ⟨B, hB⟩ : ∃ B, B = w1.heap.size := ⟨_, rfl⟩
    rw [← hB] at HC6 hxl hnl
    have hB1 : w1.heap.size ≤ B := by omega
    have hB0 : B ≤ w1.heap.size := by omega
    clear hB hc1 hx1b hn1 p2 y2 hrow hrbl HU
    go_wp2_with fail
    go_loopg [] g6 (fun g wr => RBRel rb l w1 B xb nb op (ks.length + 1) (s1.bind fun _ r1 => rowR (kindK 2) sComma r1) g wr)
    case atStart => exact HC6.out
    case round =>
      obtain ⟨st, pre, vv, hg, hst, hrow, hxb, hnb, hq, hlen, hA⟩ := hrel
      have HG := Lib.hid hg
      have HA := Lib.hid hA
      have HML := Lib.hid (show (pre.map strDat).length = pre.length by simp)
      obtain ⟨va, vc, hv, hvc⟩ := hrow.form
      rw [HML.out] at hv hvc
      subst hv
      clear hg hA HC6
      have HT := rtake_any hl2 hst sComma
      have hpl : pre.length ≤ 1073741823 := by omega
      cases hb : takeB sComma st with
      | true =>
        obtain ⟨r2, r3, rfl, ht, hS, hr3⟩ := take_true hb
        rw [hb, hS] at HT
        replace HT := Lib.hid HT
        clear hS hb
        simp only [sComma] at HT
        have HTT := Lib.hid (fun w' (h : RSt rb l w' (.ok () r3)) => rupper_any hl2 h)
        unfold RPost at HTT
        simp only [Rd.bind_ok] at HTT
        have HAT := Lib.hid ht
        have hlen2 : pre.length + (r2.length + 1) ≤ ks.length + 1 := hlen
        have HG2 := Lib.hid (show _ = r2.length + 1 from HG.out)
        clear ht hlen HG
        go_upto_region 5 with (go_at_call 132; refine (HT.out).mono ?_; rintro e w7 ⟨rfl, hc7, hx7⟩)
        have hxb7 := hxb.chg hx7 (by simpa using hxc)
        have hnb7 := hnb.chg hx7 (by simpa using hnc)
        have hrow7 := hrow.chg hx7 (by simp; omega)
        have hq7 := hq.trans (hx7.mono (T := [rb, xb]) (by simp))
        have hsz7 := hq7.size
        have hown2 : ∀ g, (Value.slice va pre.length vc).ownBlock = some g → B ≤ g ∧ g < w7.heap.size := fun g hg => hrow7.own_ge hg
        obtain ⟨p2, y2⟩ := hxb7 1 _ rfl
        clear hxb hnb hrow hq hst hx7 HT
        go_region_law ((first
          | (go_simp; go_at_call 169; refine (HTT.out _ (hc7.ext (Ext.drew (Below.refl _ w7)))).mono ?_; rintro e w4 ⟨hx4', hst4, v4, x4, rfl, ⟨rfl, hsz4⟩, hval⟩; (have hx4 : Chg [rb] w7 w4 := (Chg.of_ext (Ext.drew (Below.refl _ w7))).trans hx4'); (have hrow4 := hrow7.chg hx4 (by simp; omega)); (have d5 := hx4.cell p2 (by simpa using hxc)); (have d6 := hx4.frozen p2 (by simpa using hxc) y2); (have d7 := (ext_alloc w4 (.cells #[.string x4] 9)).cell d5); (try simp only []))
          | (refine step_append_row rfl (.tmp 20) (.tmp 23) _ rfl 9 i0 _ 16 Tryz.underlying25 hi0 hz0 hz1' hz2' rfl (by decide) B (.slice va pre.length vc) (pre.map strDat) (by rfl) w4 hrow4 (ext_alloc _ _) w4.heap.size (by rfl) _ _ (heap_alloc_new _ _) (strDat x4) (str_el hsz4) (by rw [HML.out]; simp only [maxLen]; omega) (by rw [HML.out]; omega) (by have := hx4.size; simp; omega) ?_; intro g5 cap w5 hrow5 hgrow hat hlt5; rw [HML.out] at hrow5 ⊢; (have hfar : (some (⟨xb, 1, none⟩ : Addr).block) ≠ (Value.slice va pre.length vc).ownBlock := fun e => by have := hown2 _ e.symm; simp only at this; omega); (have hlt6 : (⟨xb, 1, none⟩ : Addr).block < (w4.alloc (.cells #[.string x4] 9)).heap.size := Nat.lt_of_lt_of_le (cell_lt d5) (ext_alloc w4 _).size); (have e5 := (hgrow.cell_far ⟨xb, 1, none⟩ hlt6 hfar).trans ((ext_alloc w4 _).cell d5)); (have e6 := (hgrow.frozen_far ⟨xb, 1, none⟩ hlt6 hfar).trans ((ext_alloc w4 _).frozen d5 d6)))))
        all_goals
          go_wp2_with fail
          go_roundg (toGo (kindK 2 r3).st)
          case measure => have := HG2.out; have := st_left (kindK_shrinks 2 _) (Nat.le_refl r3.length); go_light; omega
          case rel => exact rb_rel hq7 hx4 hst4 hrow4 hxb7 hnb7 hgrow hrow5 hrx hxl hnl hxn hnc hB1 (by have := st_left (kindK_shrinks 2 _) (Nat.le_refl r3.length); omega) (row_next (kindK_shrinks 2) HA.out HAT.out hval)
      | false =>
        obtain ⟨hA, hS⟩ := row_end (kindK_shrinks 2) HA.out hb
        rw [hb, hS] at HT
        replace HT := Lib.hid HT
        have HE2 := Lib.hid (show boundStep rUnit op ks = (((st.bind fun _ r => mustS sRbra r).bind fun _ r => mustS sColon r).bind fun _ r => rUnit r).map fun f => .mk op pre [] [f] by
          rw [hE1.out, hA]
          cases st with
          | bad r => rfl
          | ok u r =>
            simp only [Rd.map_ok, Rd.bind_ok]
            cases mustS sRbra r with
            | bad r => rfl
            | ok u2 k =>
              simp only [Rd.bind_ok]
              cases mustS sColon k with
              | bad r => rfl
              | ok u3 k2 => rfl)
        clear hA hS hb hE1
        simp only [sComma] at HT
        have HM2 := Lib.hid (fun w' (h : RSt rb l w' st) => rmust_any hl2 h sRbra)
        simp only [sRbra] at HM2
        have HM3 := Lib.hid (fun w' (h : RSt rb l w' (st.bind fun _ r => mustS sRbra r)) => rmust_any hl2 h sColon)
        simp only [sColon] at HM3
        obtain ⟨oa, oc, ho, hoc, hod⟩ := GRow.dat (by decide) hrow
        rw [HML.out] at ho hoc
        injection ho with e1 _ e3
        subst e1; subst e3
        have hxl2 := hxb.lt
        have hdat : IsStrs (fun g => B ≤ g ∧ g < wr.heap.size) wr va pre := Dat.Rows.mono hod fun g hg hlt => ⟨hg, hlt⟩
        clear hod hoc hrow
        go_upto_region 8 with (first | (go_at_call 132; refine (HT.out).mono ?_; rintro e w7 ⟨rfl, hc7, hx7⟩) | (go_at_call 134; refine (HM2.out _ hc7).mono ?_; rintro e w8 ⟨rfl, hc8, hx8⟩) | (go_at_call 134; refine (HM3.out _ hc8).mono ?_; rintro e w9 ⟨rfl, hc9, hx9⟩))
        clear HT HM2 HM3
        have hls : toGo ((st.bind fun _ r => mustS sRbra r).bind fun _ r => mustS sColon r) ≤ n + 1 := by
          have h1 := left_must (s := sRbra) (st := st)
          have h2 := left_must (s := sColon) (st := st.bind fun _ r => mustS sRbra r)
          omega
        have HU := Lib.hid (fun w' (h : RSt rb l w' ((st.bind fun _ r => mustS sRbra r).bind fun _ r => mustS sColon r)) => HIH.out _ hls w' h)
        have hc9 : RSt rb l w9 ((st.bind fun _ r => mustS sRbra r).bind fun _ r => mustS sColon r) := hc9
        clear hls hlen HG
        generalize ((st.bind fun _ r => mustS sRbra r).bind fun _ r => mustS sColon r) = s5 at *
        unfold RPost at HU
        have h79 := (hx7.trans hx8).trans hx9
        have hxb9 := hxb.chg h79 (by simpa using hxc)
        have hnb9 := hnb.chg h79 (by simpa using hnc)
        have hq9 := (hq1.mono (T := [rb, xb]) (by simp)).trans (hq.trans (h79.mono (by simp)))
        have hs9 := hq9.size
        have hB9 := h79.size
        have hwr := hq.size
        have hdat9 := Dat.Rows.chg hdat h79 (fun g hg => by simp; omega)
        obtain ⟨p3, y3⟩ := hxb9 3 _ rfl
        have hrow : GRow (eltDat 4) 29 w9.heap.size w9 (.slice none 0 0) (([] : List Fm).map Fm.dat) := GRow.nil
        have hrbl := hc9.lt
        have hxl9 := hxb9.lt
        have hnl9 := hnb9.lt
        clear hxb hnb hq hx7 hx8 hx9 hc7 hc8 hst h79 hdat hq1
        go_cut [] from 30 to 36 (fun wx => ∃ (ga : Option Addr) (cap : Nat) (f' : Fm), RSt rb l wx (s5.bind fun _ r => rUnit r).st ∧ Own wx xb [.int .i64 op, .slice va pre.length vc, .slice none 0 0, .slice ga 1 cap] ∧ 1 ≤ cap ∧ Own wx nb [.int .i64 0, .slice none 0 0, .slice none 0 0, .slice none 0 0] ∧ Chg [rb] w wx ∧
          IsStrs (fun g => w.heap.size ≤ g ∧ g ≠ nb) wx va pre ∧ IsFms (fun g => w.heap.size ≤ g ∧ g ≠ nb) wx ga [f'] ∧ ∀ x r, (s5.bind fun _ r => rUnit r) = .ok x r → f' = x)
        case first =>
          go_region_law ((first
            | (go_simp; go_at_call 83; refine (HU.out _ (hc9.ext (Ext.drew (Below.refl _ w9)))).mono ?_; rintro e w4 ⟨hx4', hst4, v4, x4, rfl, ⟨xa, xv, xc, xd, rfl, hex⟩, hval⟩; (have hx4 : Chg [rb] w9 w4 := (Chg.of_ext (Ext.drew (Below.refl _ w9))).trans hx4'); (have hrow4 := hrow.chg hx4 (by simpa using hrbl)); (obtain ⟨d1, e1, d2, e2, d3, e3, rfl, rfl, rfl, rfl, -⟩ := hex.form); (have d5 := hx4.cell p3 (by simpa using hxc)); (have d6 := hx4.frozen p3 (by simpa using hxc) y3); (have d7 := (ext_alloc w4 (.cells #[.int .i64 x4.op, .slice d1 x4.vars.length e1, .slice d2 x4.terms.length e2, .slice d3 x4.args.length e3] 29)).cell d5); (try simp only []))
            | (refine step_append_row rfl (.tmp 31) (.tmp 34) _ rfl 29 j0 _ 80 Tryz.underlying27 hj0 jz0 jz1' jz2' rfl (by decide) w9.heap.size (.slice none 0 0) (([] : List Fm).map Fm.dat) (by rfl) w4 hrow4 (ext_alloc _ _) w4.heap.size (by rfl) _ _ (heap_alloc_new _ _) x4.dat (fm_el (hex.ext (ext_alloc _ _)) fun g hg hlt => (show w9.heap.size ≤ g ∧ (Value.slice none 0 0).ownBlock ≠ some g from ⟨by have : w9.drew.heap.size ≤ g := hg; simpa using this, fun e => by cases e⟩)) (by decide) (by decide) (by have := hx4.size; simp; omega) ?_; intro g cap w5 hrow5 hgrow hat hlt5; (have hfar : (some (⟨xb, 3, none⟩ : Addr).block) ≠ (Value.slice none 0 0).ownBlock := fun e => by cases e); (have hlt6 : (⟨xb, 3, none⟩ : Addr).block < (w4.alloc (.cells #[.int .i64 x4.op, .slice d1 x4.vars.length e1, .slice d2 x4.terms.length e2, .slice d3 x4.args.length e3] 29)).heap.size := Nat.lt_of_lt_of_le (cell_lt d5) (ext_alloc w4 _).size); (have e5 := (hgrow.cell_far ⟨xb, 3, none⟩ hlt6 hfar).trans ((ext_alloc w4 _).cell d5)); (have e6 := (hgrow.frozen_far ⟨xb, 3, none⟩ hlt6 hfar).trans ((ext_alloc w4 _).frozen d5 d6)))))
          all_goals
            go_wp2_with fail
            go_meet
            have h45 := chg_append hx4 hrow4 (Nat.le_refl _) (ext_alloc _ (.cells #[.int .i64 x4.op, .slice d1 x4.vars.length e1, .slice d2 x4.terms.length e2, .slice d3 x4.args.length e3] 29)) hgrow
            have hset := (Chg.refl [xb] w5).setCell (p := ⟨xb, 3, none⟩) (.slice (some ⟨g, 0, none⟩) 1 cap) (.inl (by simp))
            have h5 : Chg [rb, xb] w9 (w5.setCell ⟨xb, 3, none⟩ (.slice (some ⟨g, 0, none⟩) 1 cap)) := (h45.mono (by simp)).trans (hset.mono (by simp))
            obtain ⟨ya, yc, hv, hyc, hyd⟩ := GRow.dat (by decide) hrow5
            injection hv with z1 _ z3
            subst z1; subst z3
            refine ⟨_, cap, x4, ((hst4.ext (ext_alloc _ _)).append hrow4 hrbl hgrow).chg hset (by simp; omega), ((hxb9.chg h45 (by simpa using hxc)).set (i := 3) (by simp) _), hyc, hnb9.chg h5 (by simp; omega), Chg.drop (T := [rb]) (Below.refl _ _) (hq9.trans h5) (by simp; omega),
              Dat.Rows.mono (Dat.Rows.chg hdat9 h5 (fun g hg => by simp; omega)) (fun g hg _ => by omega), ?_, hval⟩
            refine Dat.Rows.mono (P := fun g => w9.heap.size ≤ g) ?_ (fun g hg _ => by omega)
            exact Dat.Rows.chg hyd hset (fun g hg => by simp; omega)
        case rest =>
          generalize wc = w6 at hcut ⊢
          obtain ⟨ga, cap, f', k1, k2, k3, k4, k5, k6, k7, hval⟩ := hcut
          obtain ⟨⟨m0, -⟩, ⟨m1, -⟩, ⟨m2, -⟩, ⟨m3, -⟩⟩ := k2.cells4
          obtain ⟨⟨n0, g0⟩, ⟨n1, g1⟩, ⟨n2, g2⟩, ⟨n3, g3⟩⟩ := k4.cells4
          have HVAL := Lib.hid hval
          clear hval hxb9 hnb9 hq9 hdat9 p3 y3 hrow hc9
          go_wp2_with fail
          refine rfin4 k5 hwn hrn k1 k4 (fun W2 r0 r1 r2 r3 => by simp [results, Tryz.results133, go_sem, r0, r1, r2, r3]) rfl fun W2 c1 c2 c3 => ⟨c2, ?_⟩
          rw [HE2.out]
          refine ⟨?_, _, .mk op pre [] [f'], rfl, ⟨_, _, _, _, rfl, IsFm.mk' (t := []) (l := [f']) h0 h0' hvc (Nat.le_refl _) k3 (Dat.Rows.mono (Dat.Rows.chg k6 c3 (fun g hg => by simpa using hg.2)) fun g hg _ => hg.1) exs_nil (Dat.Rows.mono (Dat.Rows.chg k7 c3 (fun g hg => by simpa using hg.2)) fun g hg _ => hg.1)⟩, fun x k he => ?_⟩
          · cases hr : (s5.bind fun _ r => rUnit r) with
            | bad k => rw [hr] at c1; exact c1
            | ok x k => rw [hr] at c1; exact c1
          · cases hr : (s5.bind fun _ r => rUnit r) with
            | bad k => rw [hr] at he; cases he
            | ok y k => rw [hr] at he; injection he with he; rw [← he, HVAL.out y k hr]
end Go.Proofs.YtnclgkdpafhogaaGreat
namespace Go.Proofs.YtnclgkdpafhogaaGreat
open Go.ChangeShapes Go.WideShapes Go.ChangeAt Go.RowKit
theorem st_ok {α : Type} {rd : Rd α} {r : List Tok} (h : rd.st = .ok () r) : ∃ x, rd = .ok x r := by
  cases rd with
  | bad k => cases h
  | ok x k => injection h with _ h; subst h; exact ⟨x, rfl⟩
theorem ex_var {P : Nat → Prop} {w : World} {a b c : Value} {x : Ex} (h : IsEx P w a b c x) : ∃ ea ec, a = .bool x.var ∧ b = .string x.name ∧ c = .slice ea x.args.length ec := by
  obtain ⟨ea, ec, h1, h2, h3, -⟩ := h.form; exact ⟨ea, ec, h1, h2, h3⟩
section
variable {rb : Nat} {l : List Tok}
set_option maxHeartbeats 4000000 in
set_option maxRecDepth 100000 in
theorem ratomic_const (hl : l.length ≤ 1073741820) {u : Unit} {t : Tok} {r : List Tok} {w : World} (h : RSt rb l w (.ok u (t :: r))) (h3 : t.kind = 3) (b : Bool) (htx : t.text = if b then sTrue else sFalse) :
    Calls Tryz.prog 135 #[.pointer (some ⟨rb, 0, none⟩)] w (RPost isFm' rb l w (rAtomic (t :: r))) := by
  have HP := Lib.hid (fun w' (hx : Ext w w') => rpeek_any (by omega) (h.ext hx))
  obtain ⟨a, c, p, hown, hp, hpk, hsuf, hmove, -⟩ := h.good
  have hlt := hown.lt
  obtain ⟨c1, f1⟩ := hown 1 _ rfl
  obtain ⟨c2, f2⟩ := hown 2 _ rfl
  have HM := Lib.hid hmove
  have HK := Lib.hid (show ((p : Int) + 1) = ((l.length - r.length : Nat) : Int) by have := hsuf.length_le; simp at this; simp at hpk; omega)
  have HR := Lib.hid ((List.suffix_cons t r).trans hsuf)
  have hp1 : (p : Int) + 1 ≤ 1073741824 := by have := hsuf.length_le; simp at this; simp at hpk; omega
  have HE := Lib.hid (show rAtomic (t :: r) = .ok (.mk (if b then 1 else 2) [] [] []) r by
    unfold rAtomic
    cases b with
    | true => rw [if_pos (by simp [h3, htx])]; rfl
    | false => rw [if_neg (by simp [h3, htx]; decide), if_pos (by simp [h3, htx])]; rfl)
  clear hown h hmove hpk hsuf
  obtain ⟨kd, tx, ta⟩ := t
  simp only at HE h3 htx
  have q1 : (kd == 3) = true := by rw [beq_iff_eq]; exact h3
  have q2 : (tx.toList == [36, 116, 114, 117, 101]) = b := by subst htx; cases b <;> decide +kernel
  have q3 : (tx.toList == [36, 102, 97, 108, 115, 101]) = !b := by subst htx; cases b <;> decide +kernel
  clear h3 htx
  obtain ⟨W, hW⟩ : ∃ W, W = w.alloc (.cells #[.int .i64 0, .slice none 0 0, .slice none 0 0, .slice none 0 0] 29) := ⟨_, rfl⟩
  have hx : Ext w W := by rw [hW]; exact ext_alloc _ _
  have hnew : Own W w.heap.size [.int .i64 0, .slice none 0 0, .slice none 0 0, .slice none 0 0] := by rw [hW]; exact own4 w _ _ _ _ _
  have HO := Lib.hid (fun (op : Int) w' => rof_any op (P := fun _ => False) (l := []) (w := w') (a := none) (c := 0) fms_nil (Nat.zero_le _))
  simp only [List.length_nil] at HO
  cases b
  all_goals
    simp only [Bool.not_true, Bool.not_false] at q2 q3
    go_enter Tryz.func135, Tryz.ntmps135
    go_wp2_with (first | (rw [← hW]; clear hW; go_at_call 84; refine (HP.out _ hx).mono ?_; rintro e w1 ⟨⟨t2, rfl, -, ht2⟩, hx1⟩; obtain rfl : t2 = ⟨kd, tx, ta⟩ := ht2 _ _ rfl; simp only [Tok.vals]; clear ht2; replace f1 := (hx.trans hx1).frozen c1 f1; replace c1 := (hx.trans hx1).cell c1; replace c2 := (hx.trans hx1).cell c2; replace hnew := hnew.ext hx1; have hlt1 : rb < w1.heap.size := cell_lt c1; have hlt2 := hnew.lt; have hne : w.heap.size ≠ rb := by omega) | (go_at_call 86; refine (HO.out _ _).mono ?_; rintro e w2 ⟨⟨a2, k2, rfl, hk2, hf2⟩, hx2⟩; have hn2 := ((hnew.chg ((Chg.refl [rb] w1).setCell (p := ⟨rb, 1, none⟩) (.int .i64 ((p : Int) + 1)) (.inl (by simp))) (by simpa using hne)).ext (ext_alloc _ (.cells #[.int .i64 kd, .string tx, .int .i64 ta] 77))).ext hx2; (obtain ⟨⟨n0, g0⟩, ⟨n1, g1⟩, ⟨n2, g2⟩, ⟨n3, g3⟩⟩ := hn2.cells4)))
    have hq2 : Chg [rb] w w2 := (((Chg.of_ext (hx.trans hx1)).setCell (p := ⟨rb, 1, none⟩) (.int .i64 ((p : Int) + 1)) (.inl (by simp))).alloc _).trans (Chg.of_ext hx2)
    have hc2 : RSt rb l w2 (.ok () r) := ((HM.out w1 (Chg.of_ext (hx.trans hx1)) _ _ HR.out HK.out).ext (ext_alloc _ _)).ext hx2
    refine rfin4 hq2 (Nat.le_refl _) hlt hc2 hn2 (fun W2 r0 r1 r2 r3 => by simp [results, Tryz.results135, go_sem, r0, r1, r2, r3]) rfl fun W2 k1 k2 k3 => ⟨k2, ?_⟩
    rw [HE.out]
    exact ⟨k1, _, _, rfl, ⟨_, _, _, _, rfl, IsFm.mk' (v := []) (t := []) (l := []) (by decide) (by decide) (Nat.le_refl _) (Nat.le_refl _) hk2 strs_nil exs_nil (by unfold IsFms; rw [Fm.dats_map, List.map_nil]; trivial)⟩, fun x k he => by injection he⟩
set_option maxHeartbeats 16000000 in
set_option maxRecDepth 100000 in
theorem ratomic_term (hl : l.length ≤ 1073741820) {u : Unit} {ks : List Tok} {w : World} (h : RSt rb l w (.ok u ks)) (hno : ¬ ((peekT ks).kind = 3 ∧ ((peekT ks).text = sTrue ∨ (peekT ks).text = sFalse))) :
    Calls Tryz.prog 135 #[.pointer (some ⟨rb, 0, none⟩)] w (RPost isFm' rb l w (rAtomic ks)) := by
  have hl2 : l.length ≤ 1073741824 := by omega
  have HE := Lib.hid (atomic_eq (ks := ks) hno)
  have HS := Lib.hid h
  have HP := Lib.hid (fun w' (hx : Ext w w') => rpeek_any hl2 (h.ext hx))
  obtain ⟨a, c, p, hown, hp, hpk, hsuf, -, -⟩ := h.good
  have hlt := hown.lt
  obtain ⟨c2, f2⟩ := hown 2 _ rfl
  clear hown hpk hsuf h
  have hcase : (peekT ks).kind ≠ 3 ∨ ((peekT ks).kind = 3 ∧ (peekT ks).text ≠ sTrue ∧ (peekT ks).text ≠ sFalse) := by
    by_cases h3 : (peekT ks).kind = 3
    · exact .inr ⟨h3, fun h => hno ⟨h3, .inl h⟩, fun h => hno ⟨h3, .inr h⟩⟩
    · exact .inl h3
  clear hno
  obtain ⟨W, hW⟩ : ∃ W, W = w.alloc (.cells #[.int .i64 0, .slice none 0 0, .slice none 0 0, .slice none 0 0] 29) := ⟨_, rfl⟩
  have hx : Ext w W := by rw [hW]; exact ext_alloc _ _
  have hnew : Own W w.heap.size [.int .i64 0, .slice none 0 0, .slice none 0 0, .slice none 0 0] := by rw [hW]; exact own4 w _ _ _ _ _
  go_enter Tryz.func135, Tryz.ntmps135
  go_upto_region 2 with (rw [← hW]; clear hW; go_at_call 84; refine (HP.out _ hx).mono ?_; rintro e w1 ⟨⟨t, rfl, -, ht⟩, hx1⟩; simp only [Tok.vals])
  rw [← ht u ks rfl] at hcase
  clear ht
  obtain ⟨kd, tx, ta⟩ := t
  simp only at hcase ⊢
  obtain ⟨V, hV⟩ : ∃ V, V = w1.alloc (.cells #[.int .i64 kd, .string tx, .int .i64 ta] 77) := ⟨_, rfl⟩
  have hx3 : Ext w V := by rw [hV]; exact (hx.trans hx1).alloc _
  have hnV : Own V w.heap.size [.int .i64 0, .slice none 0 0, .slice none 0 0, .slice none 0 0] := by rw [hV]; exact (hnew.ext hx1).ext (ext_alloc _ _)
  have htV : Own V w1.heap.size [.int .i64 kd, .string tx, .int .i64 ta] := by rw [hV]; exact own3 w1 _ _ _ _
  rw [← hV]
  clear hV hx hx1 hnew HP
  generalize w1.heap.size = tb at *
  have hcV := HS.out.ext hx3
  have hnlt := hnV.lt
  have hle := hx3.size
  replace c2 := hx3.cell c2
  have hltV : rb < V.heap.size := hcV.lt
  obtain ⟨t0, -⟩ := htV 0 _ rfl
  obtain ⟨t1, -⟩ := htV 1 _ rfl
  go_cut [26] from 7 to 26 (fun v wx => v = .bool false ∧ wx = V)
  case first =>
    rcases hcase with h3 | ⟨h3, hnt, hnf⟩
    · have q1 : (kd == 3) = false := by rw [beq_eq_false_iff_ne]; exact h3
      clear h3
      go_wp2_with fail
      go_meet
      exact ⟨rfl, rfl⟩
    · have q1 : (kd == 3) = true := by rw [beq_iff_eq]; exact h3
      have q2 : (tx.toList == [36, 116, 114, 117, 101]) = false := by
        have := bytes_ne (a := tx) (b := sTrue) hnt
        rwa [show sTrue.toList = [36, 116, 114, 117, 101] by decide +kernel] at this
      have q3 : (tx.toList == [36, 102, 97, 108, 115, 101]) = false := by
        have := bytes_ne (a := tx) (b := sFalse) hnf
        rwa [show sFalse.toList = [36, 102, 97, 108, 115, 101] by decide +kernel] at this
      clear h3 hnt hnf
      go_wp2_with fail
      go_meet
      exact ⟨rfl, rfl⟩
  case rest =>
  obtain ⟨rfl, rfl⟩ := hcut
  clear hcase t0 t1 htV c2 f2
  have HT := Lib.hid (rterm_any (by omega) ks.length ks u (Nat.le_refl _) wc hcV)
  unfold RPost at HT
  go_upto_region 8 with (go_at_call 170; refine (HT.out).mono ?_; rintro e w3 ⟨hx4, hc4, v, x, rfl, ⟨xa, xv, xc, rfl, hv⟩, hval⟩; (obtain ⟨ea, ec, rfl, rfl, rfl⟩ := ex_var hv))
  obtain ⟨V3, hV3⟩ : ∃ V3, V3 = w3.alloc (.cells #[.bool x.var, .string x.name, .slice ea x.args.length ec] 73) := ⟨_, rfl⟩
  have hq3 : Chg [rb] w V3 := by rw [hV3]; exact (Chg.trans (Chg.of_ext hx3) hx4).alloc _
  have hc3 : RSt rb l V3 (rTerm ks).st := by rw [hV3]; exact hc4.ext (ext_alloc _ _)
  have hne : w.heap.size ≠ rb := by omega
  have hn3 : Own V3 w.heap.size [.int .i64 0, .slice none 0 0, .slice none 0 0, .slice none 0 0] := by rw [hV3]; exact (hnV.chg hx4 (by simpa using hne)).ext (ext_alloc _ _)
  have hxb : Own V3 w3.heap.size [.bool x.var, .string x.name, .slice ea x.args.length ec] := by rw [hV3]; exact own3 w3 _ _ _ _
  have hv3 : IsEx (fun g => w.heap.size ≤ g ∧ g ≠ w.heap.size ∧ g ≠ rb) V3 (.bool x.var) (.string x.name) (.slice ea x.args.length ec) x := by rw [hV3]; exact (Dat.Fs.mono hv (fun g hg _ => ⟨Nat.le_trans hle hg, by omega, by omega⟩)).ext (ext_alloc _ _)
  have hxn : w.heap.size < w3.heap.size := Nat.lt_of_lt_of_le hnlt hx4.size
  have HVAL := Lib.hid hval
  rw [← hV3]
  clear hV3 hx3 hx4 hc4 hv hnV hcV HS HT hnlt hle hval hltV
  generalize w3.heap.size = xb at *
  have hxc : xb ≠ rb := by omega
  clear w3 wc
  have HT := rtake_any hl2 hc3 sEq
  generalize hs1 : (rTerm ks).st = s1 at *
  have HS1 := Lib.hid hs1
  clear hs1
  cases hb : takeB sEq s1 with
  | true =>
    obtain ⟨r, r1, rfl, ht, hS, -⟩ := take_true hb
    obtain ⟨x0, hx0⟩ := st_ok HS1.out
    have hxe := HVAL.out x0 r hx0
    subst hxe
    have HE2 := Lib.hid (show rAtomic ks = (rTerm r1).map fun y => fEq x y by rw [HE.out, hx0, Rd.bind_ok]; unfold rAtomicTail; rw [ht])
    rw [hb, hS] at HT
    replace HT := Lib.hid HT
    clear hS hb hx0 HE HS1 HVAL ht
    simp only [sEq] at HT
    have HT2 := Lib.hid (fun w' (h : RSt rb l w' (.ok () r1)) => rterm_any (by omega) r1.length r1 () (Nat.le_refl _) w' h)
    unfold RPost at HT2
    go_upto_region 9 with (go_at_call 132; refine (HT.out).mono ?_; rintro e w5 ⟨rfl, hc5, hx5⟩)
    have hxb5 := hxb.chg hx5 (by simpa using hxc)
    have hn5 := hn3.chg hx5 (by simpa using hne)
    have hv5 := Dat.Fs.chg hv3 hx5 (fun g hg => by simpa using hg.2.2)
    have hq5 := hq3.trans hx5
    have hle5 := hq5.size
    clear hxb hn3 hv3 hq3 hc3 hx5 HT
    obtain ⟨p0, -⟩ := hxb5 0 _ rfl
    obtain ⟨p1, -⟩ := hxb5 1 _ rfl
    obtain ⟨p2, -⟩ := hxb5 2 _ rfl
    go_cut [] from 43 to 47 (fun wx => ∃ (ga : Nat) (y : Ex), RSt rb l wx (rTerm r1).st ∧ Own wx w.heap.size [.int .i64 4, .slice none 0 0, .slice (some ⟨ga, 0, none⟩) 2 2, .slice none 0 0] ∧ Chg [rb] w wx ∧ IsExs (fun g => w.heap.size ≤ g) wx (some ⟨ga, 0, none⟩) [x, y] ∧ ∀ z k, rTerm r1 = .ok z k → y = z)
    case first =>
      go_region_law ((go_simp; go_at_call 170; refine (HT2.out _ (hc5.ext (Ext.drew (Below.refl _ w5)))).mono ?_; rintro e w6 ⟨hx6', hst6, v6, y6, rfl, ⟨ya, yb, yc, rfl, hey⟩, hval6⟩; (have hx6 : Chg [rb] w5 w6 := (Chg.of_ext (Ext.drew (Below.refl _ w5))).trans hx6'); (have hxb6 := hxb5.chg hx6 (by simpa using hxc)); (have hn6 := hn5.chg hx6 (by simpa using hne)); (have hnl6 := hn6.lt); (have hv6 := Dat.Fs.chg hv5 hx6 (fun g hg => by simpa using hg.2.2)); (obtain ⟨m0, -⟩ := hxb6 0 _ rfl); (obtain ⟨m1, -⟩ := hxb6 1 _ rfl); (obtain ⟨m2, -⟩ := hxb6 2 _ rfl); (obtain ⟨⟨n0, g0⟩, ⟨n1, g1⟩, ⟨n2, g2⟩, ⟨n3, g3⟩⟩ := hn6.cells4); (obtain ⟨b1, c1, rfl, rfl, rfl⟩ := ex_var hey); (try simp only [])))
      all_goals
        go_wp2_with fail
        go_meet
        have hch := chg_set4 w6 w.heap.size (.int .i64 4) (.slice none 0 0) (.slice (some ⟨w6.heap.size, 0, none⟩) 2 2) (.slice none 0 0)
        have hle6 := hx6.size
        have hnl5 := hn5.lt
        have hE := exs_two 73 (P := fun g => w.heap.size ≤ g) (Dat.Fs.mono (Dat.Fs.chg hv6 hch (fun g hg => by simpa using hg.2.1)) fun g hg _ => hg.1) (Dat.Fs.mono (Dat.Fs.chg hey hch (fun g hg => by have h1 : w5.drew.heap.size ≤ g := hg; simp at h1 ⊢; omega)) fun g hg _ => by have h1 : w5.drew.heap.size ≤ g := hg; simp at h1; omega) (by have := hch.size; omega)
        rw [show ((((w6.setCell ⟨w.heap.size, 0, none⟩ (.int .i64 4)).setCell ⟨w.heap.size, 1, none⟩ (.slice none 0 0)).setCell ⟨w.heap.size, 2, none⟩ (.slice (some ⟨w6.heap.size, 0, none⟩) 2 2)).setCell ⟨w.heap.size, 3, none⟩ (.slice none 0 0)).heap.size = w6.heap.size by simp [World.setCell]] at hE
        refine ⟨w6.heap.size, y6, (hst6.chg hch (by simp; omega)).ext (ext_alloc _ _), (own_set4 hn6 _ _ _ _).ext (ext_alloc _ _), ?_, hE, hval6⟩
        exact (Chg.drop (T := [rb]) (Below.refl _ _) (((hq5.trans hx6).mono (T := [rb, w.heap.size]) (by simp)).trans (hch.mono (by simp))) (by simp)).alloc _
    case rest =>
      generalize wc = w8 at hcut ⊢
      obtain ⟨ga, y, k1, k2, k3, k4, hval⟩ := hcut
      obtain ⟨z0, z1, z2, z3⟩ := own_res4 k2
      have HVAL := Lib.hid hval
      clear hval hxb5 hn5 hv5 hc5
      go_wp2_with fail
      refine bodyPost_ret (v := .agg #[.int .i64 4, .slice none 0 0, .slice (some ⟨ga, 0, none⟩) 2 2, .slice none 0 0]) (by simp [results, Tryz.results135, go_sem, z0, z1, z2, z3]) rfl ⟨k3, ?_⟩
      rw [HE2.out]
      refine ⟨?_, _, fEq x y, rfl, ⟨_, _, _, _, rfl, fm_terms (l := [x, y]) (by decide) (by decide) (Nat.le_refl _) k4⟩, fun z k he => ?_⟩
      · cases hr : rTerm r1 with
        | bad k => rw [hr] at k1; exact k1
        | ok z k => rw [hr] at k1; exact k1
      · cases hr : rTerm r1 with
        | bad k => rw [hr] at he; cases he
        | ok y' k => rw [hr] at he; injection he with he; rw [← he, HVAL.out y' k hr]
  | false =>
    have hS0 : takeSt sEq s1 = s1 := by
      cases s1 with
      | bad r => rfl
      | ok u r =>
        cases ht : takeS sEq r with
        | none => exact (takeSt_none ht).1
        | some r1 => rw [(takeSt_some ht).2] at hb; cases hb
    have HB := Lib.hid hb
    rw [hb, hS0] at HT
    replace HT := Lib.hid HT
    clear hb hS0
    simp only [sEq] at HT
    go_upto_region 10 with (go_at_call 132; refine (HT.out).mono ?_; rintro e w4 ⟨rfl, hc4, hx4⟩)
    have hxb4 := hxb.chg hx4 (by simpa using hxc)
    have hn4 := hn3.chg hx4 (by simpa using hne)
    have hv4 := Dat.Fs.chg hv3 hx4 (fun g hg => by simpa using hg.2.2)
    have hq4 := hq3.trans hx4
    clear hxb hn3 hv3 hq3 hc3 hx4 HT
    have HT := rtake_any hl2 hc4 sNe
    cases hb : takeB sNe s1 with
    | true =>
      obtain ⟨r, r1, rfl, ht, hS, -⟩ := take_true hb
      obtain ⟨x0, hx0⟩ := st_ok HS1.out
      have hxe := HVAL.out x0 r hx0
      subst hxe
      have he0 : takeS sEq r = none := by
        have := HB.out
        unfold takeB at this
        cases h : takeS sEq r with
        | none => rfl
        | some r1 => simp [h] at this
      have HE2 := Lib.hid (show rAtomic ks = (rTerm r1).map fun y => fNot (fEq x y) by rw [HE.out, hx0, Rd.bind_ok]; unfold rAtomicTail; rw [he0]; simp only; rw [ht])
      rw [hb, hS] at HT
      replace HT := Lib.hid HT
      clear hS hb hx0 HE HS1 HVAL ht he0 HB
      simp only [sNe] at HT
      have HT2 := Lib.hid (fun w' (h : RSt rb l w' (.ok () r1)) => rterm_any (by omega) r1.length r1 () (Nat.le_refl _) w' h)
      unfold RPost at HT2
      go_upto_region 11 with (go_at_call 132; refine (HT.out).mono ?_; rintro e w5 ⟨rfl, hc5, hx5⟩)
      have hxb5 := hxb4.chg hx5 (by simpa using hxc)
      have hn5 := hn4.chg hx5 (by simpa using hne)
      have hv5 := Dat.Fs.chg hv4 hx5 (fun g hg => by simpa using hg.2.2)
      have hq5 := hq4.trans hx5
      have hle5 := hq5.size
      have hnl5 := hn5.lt
      clear hxb4 hn4 hv4 hq4 hc4 hx5 HT
      obtain ⟨p0, -⟩ := hxb5 0 _ rfl
      obtain ⟨p1, -⟩ := hxb5 1 _ rfl
      obtain ⟨p2, -⟩ := hxb5 2 _ rfl
      go_cut [] from 50 to 56 (fun wx => ∃ (ga : Option Addr) (gc : Nat) (y : Ex), RSt rb l wx (rTerm r1).st ∧ Own wx w.heap.size [.int .i64 5, .slice none 0 0, .slice none 0 0, .slice ga 1 gc] ∧ 1 ≤ gc ∧ Chg [rb] w wx ∧ IsFms (fun g => w.heap.size ≤ g) wx ga [fEq x y] ∧ ∀ z k, rTerm r1 = .ok z k → y = z)
      case first =>
        go_region_law ((first
          | (go_simp; go_at_call 170; refine (HT2.out _ (hc5.ext (Ext.drew (Below.refl _ w5)))).mono ?_; rintro e w6 ⟨hx6', hst6, v6, y6, rfl, ⟨ya, yb, yc, rfl, hey⟩, hval6⟩; (have hx6 : Chg [rb] w5 w6 := (Chg.of_ext (Ext.drew (Below.refl _ w5))).trans hx6'); (have hxb6 := hxb5.chg hx6 (by simpa using hxc)); (have hn6 := hn5.chg hx6 (by simpa using hne)); (have hnl6 := hn6.lt); (have hv6 := Dat.Fs.chg hv5 hx6 (fun g hg => by simpa using hg.2.2)); (obtain ⟨m0, -⟩ := hxb6 0 _ rfl); (obtain ⟨m1, -⟩ := hxb6 1 _ rfl); (obtain ⟨m2, -⟩ := hxb6 2 _ rfl); (obtain ⟨⟨n0, g0⟩, ⟨n1, g1⟩, ⟨n2, g2⟩, ⟨n3, g3⟩⟩ := hn6.cells4); (obtain ⟨b1, c1, rfl, rfl, rfl⟩ := ex_var hey); (have HF6 := Lib.hid (show IsFms (fun g => w.heap.size ≤ g ∧ g ≠ w.heap.size) _ (some ⟨w6.heap.size + 1, 0, none⟩) [fEq x y6] from (by
            have hle6 := hx6.size
            have hE := exs_two 73 (P := fun g => w.heap.size ≤ g ∧ g ≠ w.heap.size) (Dat.Fs.mono hv6 fun g hg _ => ⟨hg.1, hg.2.1⟩) (Dat.Fs.mono hey fun g hg _ => by have h1 : w5.drew.heap.size ≤ g := hg; simp at h1; omega) (show w.heap.size ≤ w6.heap.size ∧ w6.heap.size ≠ w.heap.size by omega)
            have hF := fms_one 29 (fm_terms (l := [x, y6]) (op := 4) (c := 2) (by decide) (by decide) (Nat.le_refl _) hE) (by simp; omega)
            rw [World.size_alloc] at hF
            exact hF))); (try simp only []))
          | (go_simp; go_at_call 86; refine (rof_any 5 (P := fun g => w.heap.size ≤ g ∧ g ≠ w.heap.size) (l := [fEq x y6]) (c := 1) HF6.out (by simp)).mono ?_; rintro e w7 ⟨⟨a7, c7, rfl, hc7, hf7⟩, hx7⟩; (have hn7 := (hn6.ext ((ext_alloc _ (.cells #[.bool x.var, .string x.name, .slice ea x.args.length ec, .bool y6.var, .string y6.name, .slice b1 y6.args.length c1] 73)).alloc (.cells #[.int .i64 4, .slice none 0 0, .slice (some ⟨w6.heap.size, 0, none⟩) 2 2, .slice none 0 0] 29))).ext hx7); clear n0 n1 n2 n3 g0 g1 g2 g3; (obtain ⟨⟨n0, g0⟩, ⟨n1, g1⟩, ⟨n2, g2⟩, ⟨n3, g3⟩⟩ := hn7.cells4); (have hnl7 := hn7.lt); (try simp only [List.length_cons, List.length_nil, Nat.zero_add]))))
        all_goals
          go_wp2_with fail
          go_meet
          have hch := chg_set4 w7 w.heap.size (.int .i64 5) (.slice none 0 0) (.slice none 0 0) (.slice a7 1 c7)
          have hxx : Ext w6 w7 := ((ext_alloc _ (.cells #[.bool x.var, .string x.name, .slice ea x.args.length ec, .bool y6.var, .string y6.name, .slice b1 y6.args.length c1] 73)).alloc (.cells #[.int .i64 4, .slice none 0 0, .slice (some ⟨w6.heap.size, 0, none⟩) 2 2, .slice none 0 0] 29)).trans hx7
          refine ⟨a7, c7, y6, (hst6.ext hxx).chg hch (by simp; omega), own_set4 hn7 _ _ _ _, hc7, ?_, Dat.Rows.mono (Dat.Rows.chg hf7 hch (fun g hg => by simp at hg ⊢; omega)) (fun g hg _ => by simp at hg; omega), hval6⟩
          exact Chg.drop (T := [rb]) (Below.refl _ _) ((((hq5.trans hx6).trans (Chg.of_ext hxx)).mono (T := [rb, w.heap.size]) (by simp)).trans (hch.mono (by simp))) (by simp)
      case rest =>
        generalize wc = w8 at hcut ⊢
        obtain ⟨ga, gc, y, k1, k2, k0, k3, k4, hval⟩ := hcut
        obtain ⟨z0, z1, z2, z3⟩ := own_res4 k2
        have HVAL := Lib.hid hval
        clear hval hxb5 hn5 hv5 hc5
        go_wp2_with fail
        refine bodyPost_ret (v := .agg #[.int .i64 5, .slice none 0 0, .slice none 0 0, .slice ga 1 gc]) (by simp [results, Tryz.results135, go_sem, z0, z1, z2, z3]) rfl ⟨k3, ?_⟩
        rw [HE2.out]
        refine ⟨?_, _, fNot (fEq x y), rfl, ⟨_, _, _, _, rfl, fm_args (l := [fEq x y]) (by decide) (by decide) k0 k4⟩, fun z k he => ?_⟩
        · cases hr : rTerm r1 with
          | bad k => rw [hr] at k1; exact k1
          | ok z k => rw [hr] at k1; exact k1
        · cases hr : rTerm r1 with
          | bad k => rw [hr] at he; cases he
          | ok y' k => rw [hr] at he; injection he with he; rw [← he, HVAL.out y' k hr]
    | false =>
      have hS0 : takeSt sNe s1 = s1 := by
        cases s1 with
        | bad r => rfl
        | ok u r =>
          cases ht : takeS sNe r with
          | none => exact (takeSt_none ht).1
          | some r1 => rw [(takeSt_some ht).2] at hb; cases hb
      have HB2 := Lib.hid hb
      rw [hb, hS0] at HT
      replace HT := Lib.hid HT
      clear hb hS0
      simp only [sNe] at HT
      go_upto_region 12 with (go_at_call 132; refine (HT.out).mono ?_; rintro e w5 ⟨rfl, hc5, hx5⟩)
      have hxb5 := hxb4.chg hx5 (by simpa using hxc)
      have hn5 := hn4.chg hx5 (by simpa using hne)
      have hv5 := Dat.Fs.chg hv4 hx5 (fun g hg => by simpa using hg.2.2)
      have hq5 := hq4.trans hx5
      clear hxb4 hn4 hv4 hq4 hc4 hx5 HT
      obtain ⟨p0, -⟩ := hxb5 0 _ rfl
      have HE3 := Lib.hid (show ∀ x0 r, rTerm ks = .ok x0 r → x0 = x ∧ rAtomic ks = if x.var then .bad r else .ok (fAtom x) r from fun x0 r hr => by
        have hxe := HVAL.out x0 r hr
        refine ⟨hxe.symm, ?_⟩
        have hs := HS1.out
        rw [hr] at hs
        have hs : Rd.ok () r = s1 := hs
        have h1 := HB.out
        have h2 := HB2.out
        rw [← hs] at h1 h2
        have he1 : takeS sEq r = none := by
          unfold takeB at h1
          cases h : takeS sEq r with
          | none => rfl
          | some r1 => simp [h] at h1
        have he2 : takeS sNe r = none := by
          unfold takeB at h2
          cases h : takeS sNe r with
          | none => rfl
          | some r1 => simp [h] at h2
        rw [HE.out, hr, Rd.bind_ok, hxe]
        unfold rAtomicTail
        rw [he1]; simp only; rw [he2])
      have HE4 := Lib.hid (show ∀ r, rTerm ks = .bad r → rAtomic ks = .bad r ∧ s1 = .bad r from fun r hr => by
        refine ⟨by rw [HE.out, hr]; rfl, ?_⟩
        have hs := HS1.out
        rw [hr] at hs
        exact hs.symm)
      have HST := Lib.hid (show (rAtomic ks).st = if x.var then .bad s1.rest else s1 by
        cases hr : rTerm ks with
        | bad r => obtain ⟨h1, rfl⟩ := HE4.out r hr; rw [h1]; cases x.var <;> rfl
        | ok x0 r =>
          obtain ⟨-, h1⟩ := HE3.out x0 r hr
          have hs := HS1.out
          rw [hr] at hs
          have hs : Rd.ok () r = s1 := hs
          subst hs
          rw [h1]; cases x.var <;> rfl)
      have HVL := Lib.hid (show ∀ z k, rAtomic ks = .ok z k → fAtom x = z from fun z k hz => by
        cases hr : rTerm ks with
        | bad r => rw [(HE4.out r hr).1] at hz; cases hz
        | ok x0 r =>
          rw [(HE3.out x0 r hr).2] at hz
          cases hxv : x.var with
          | true => rw [hxv] at hz; cases hz
          | false => rw [hxv] at hz; injection hz)
      clear HE HE3 HE4 HS1 HB HB2 HVAL
      cases hxv : x.var with
      | true =>
        rw [hxv] at p0 HST hv5 hxb5
        go_wp2_with (go_at_call 117; refine (rwrong_any hl2 hc5).mono ?_; rintro e w6 ⟨rfl, hc6, hx6⟩; have hxb6 := hxb5.chg hx6 (by simpa using hxc); have hn6 := hn5.chg hx6 (by simpa using hne); have hv6 := Dat.Fs.chg hv5 hx6 (fun g hg => by simpa using hg.2.2); have hq6 := hq5.trans hx6; have hnl6 := hn6.lt; (obtain ⟨m0, -⟩ := hxb6 0 _ rfl); (obtain ⟨m1, -⟩ := hxb6 1 _ rfl); (obtain ⟨m2, -⟩ := hxb6 2 _ rfl); (obtain ⟨⟨n0, g0⟩, ⟨n1, g1⟩, ⟨n2, g2⟩, ⟨n3, g3⟩⟩ := hn6.cells4))
        have hch := chg_set4 w6 w.heap.size (.int .i64 3) (.slice none 0 0) (.slice (some ⟨w6.heap.size, 0, none⟩) 1 1) (.slice none 0 0)
        have hE := exs_one 73 (P := fun g => w.heap.size ≤ g) (Dat.Fs.mono (Dat.Fs.chg hv6 hch (fun g hg => by simpa using hg.2.1)) fun g hg _ => hg.1) (by have := hch.size; omega)
        rw [show ((((w6.setCell ⟨w.heap.size, 0, none⟩ (.int .i64 3)).setCell ⟨w.heap.size, 1, none⟩ (.slice none 0 0)).setCell ⟨w.heap.size, 2, none⟩ (.slice (some ⟨w6.heap.size, 0, none⟩) 1 1)).setCell ⟨w.heap.size, 3, none⟩ (.slice none 0 0)).heap.size = w6.heap.size by simp [World.setCell]] at hE
        have hres := (own_set4 hn6 (.int .i64 3) (.slice none 0 0) (.slice (some ⟨w6.heap.size, 0, none⟩) 1 1) (.slice none 0 0)).ext (ext_alloc _ (.cells #[.bool true, .string x.name, .slice ea x.args.length ec] 73))
        have hcf := (hc6.chg hch (by simp; omega)).ext (ext_alloc _ (.cells #[.bool true, .string x.name, .slice ea x.args.length ec] 73))
        have hqf := (Chg.drop (T := [rb]) (Below.refl _ _) ((hq6.mono (T := [rb, w.heap.size]) (by simp)).trans (hch.mono (by simp))) (by simp)).alloc (.cells #[.bool true, .string x.name, .slice ea x.args.length ec] 73)
        obtain ⟨z0, z1, z2, z3⟩ := own_res4 hres
        refine bodyPost_ret (v := .agg #[.int .i64 3, .slice none 0 0, .slice (some ⟨w6.heap.size, 0, none⟩) 1 1, .slice none 0 0]) (by simp [results, Tryz.results135, go_sem, z0, z1, z2, z3]) rfl ⟨hqf, ?_, _, fAtom x, rfl, ⟨_, _, _, _, rfl, fm_terms (l := [x]) (by decide) (by decide) (Nat.le_refl _) hE⟩, HVL.out⟩
        rw [HST.out]
        exact hcf
      | false =>
        rw [hxv] at p0 HST hv5 hxb5
        have hn6 := hn5
        have hv6 := hv5
        have hc6 : RSt rb l w5 (if false = true then .bad s1.rest else s1) := hc5
        have hq6 := hq5
        have hnl6 := hn6.lt
        obtain ⟨m1, -⟩ := hxb5 1 _ rfl
        obtain ⟨m2, -⟩ := hxb5 2 _ rfl
        obtain ⟨⟨n0, g0⟩, ⟨n1, g1⟩, ⟨n2, g2⟩, ⟨n3, g3⟩⟩ := hn6.cells4
        go_wp2_with fail
        have hch := chg_set4 w5 w.heap.size (.int .i64 3) (.slice none 0 0) (.slice (some ⟨w5.heap.size, 0, none⟩) 1 1) (.slice none 0 0)
        have hE := exs_one 73 (P := fun g => w.heap.size ≤ g) (Dat.Fs.mono (Dat.Fs.chg hv6 hch (fun g hg => by simpa using hg.2.1)) fun g hg _ => hg.1) (by have := hch.size; omega)
        rw [show ((((w5.setCell ⟨w.heap.size, 0, none⟩ (.int .i64 3)).setCell ⟨w.heap.size, 1, none⟩ (.slice none 0 0)).setCell ⟨w.heap.size, 2, none⟩ (.slice (some ⟨w5.heap.size, 0, none⟩) 1 1)).setCell ⟨w.heap.size, 3, none⟩ (.slice none 0 0)).heap.size = w5.heap.size by simp [World.setCell]] at hE
        have hres := (own_set4 hn6 (.int .i64 3) (.slice none 0 0) (.slice (some ⟨w5.heap.size, 0, none⟩) 1 1) (.slice none 0 0)).ext (ext_alloc _ (.cells #[.bool false, .string x.name, .slice ea x.args.length ec] 73))
        have hcf := (hc6.chg hch (by simp; omega)).ext (ext_alloc _ (.cells #[.bool false, .string x.name, .slice ea x.args.length ec] 73))
        have hqf := (Chg.drop (T := [rb]) (Below.refl _ _) ((hq6.mono (T := [rb, w.heap.size]) (by simp)).trans (hch.mono (by simp))) (by simp)).alloc (.cells #[.bool false, .string x.name, .slice ea x.args.length ec] 73)
        obtain ⟨z0, z1, z2, z3⟩ := own_res4 hres
        refine bodyPost_ret (v := .agg #[.int .i64 3, .slice none 0 0, .slice (some ⟨w5.heap.size, 0, none⟩) 1 1, .slice none 0 0]) (by simp [results, Tryz.results135, go_sem, z0, z1, z2, z3]) rfl ⟨hqf, ?_, _, fAtom x, rfl, ⟨_, _, _, _, rfl, fm_terms (l := [x]) (by decide) (by decide) (Nat.le_refl _) hE⟩, HVL.out⟩
        rw [HST.out]
        exact hcf
end
end Go.Proofs.YtnclgkdpafhogaaGreat
namespace Go.Proofs.YtnclgkdpafhogaaGreat
open Go.ChangeShapes Go.WideShapes Go.ChangeAt Go.RowKit
/-- elements of m cells that read as fields, in blocks of Q -/
def eltDatQ (m : Nat) (Q : Nat → Prop) : Elt (List Dat) where
  size := m
  is P w cs a := cs.length = m ∧ Dat.Fs (fun g => P g ∧ Q g) w cs a
  len h := h.1
  one h := Dat.Fs.one h.2
  keep h1 h2 h := ⟨h.1, Dat.Fs.of_cells (fun b hb hlt => ⟨h1 b hb.1 hlt, hb.2⟩) (fun p v hp hv => h2 p v hp.1 hv) h.2⟩
theorem GRow.datQ {m e B : Nat} {Q : Nat → Prop} {w : World} {v : Value} {l : List (List Dat)} (hm : 0 < m) (h : GRow (eltDatQ m Q) e B w v l) (hQ : ∀ g, v.ownBlock = some g → Q g) : ∃ a c, v = .slice a l.length c ∧ l.length ≤ c ∧ Dat.Rows (fun b => B ≤ b ∧ Q b) w a l := by
  obtain ⟨a, c, rfl, hc⟩ := h.form
  refine ⟨a, c, rfl, hc, ?_⟩
  rcases Nat.eq_zero_or_pos l.length with h0 | h0
  · have : l = [] := List.eq_nil_of_length_eq_zero h0
    subst this; trivial
  · obtain ⟨g, cap, cs, hv, hg, -⟩ := h.at h0
    injection hv with e1 _ _
    subst e1
    have hel : ∀ e ∈ l, e.length = m := by
      intro x hx
      obtain ⟨i, hi, rfl⟩ := List.getElem_of_mem hx
      obtain ⟨_, _, cs, -, -, -, -, h1, h2, -⟩ := h.at hi
      rw [← Dat.Fs.length h1.2]; exact h2
    refine Dat.Rows.of_at ⟨hg, hQ g rfl⟩ hm hel fun i hi => ?_
    obtain ⟨g', cap', cs, hv', -, -, -, h1, h2, h3⟩ := h.at hi
    injection hv' with e1 _ _
    injection e1 with e1; injection e1 with e1 _ _
    subst e1
    exact ⟨cs, fun j u hu => by have := h3 j u hu; simpa [eltDatQ] using this, h1.2.mono fun b hb _ => ⟨hb.1.1, hb.2⟩⟩
theorem fm_elQ {P Q R : Nat → Prop} {w : World} {a b c d : Value} {x : Fm} (h : IsFm P w a b c d x) (hQ : ∀ g, P g → g < w.heap.size → Q g ∧ R g) : (eltDatQ 4 R).is Q w [a, b, c, d] x.dat := ⟨rfl, Dat.Fs.mono h hQ⟩
/-- what a reading of the reference does; the thing lies in blocks from B on -/
def RPostB {α : Type} (is : (Nat → Prop) → World → Value → α → Prop) (B rb : Nat) (l : List Tok) (w : World) (rd : Rd α) (e : Ending) (w' : World) : Prop :=
  Chg [rb] w w' ∧ RSt rb l w' rd.st ∧ ∃ v x', e = .returned v ∧ is (fun g => B ≤ g) w' v x' ∧ ∀ x r, rd = .ok x r → x' = x
theorem chg_grow {S : List Nat} {w0 w1 w2 : World} {v : Value} (h : Chg S w0 w1) (hg : w1.grownBy w2 v.ownBlock) (hv : ∀ g, v.ownBlock = some g → w0.heap.size ≤ g) : Chg S w0 w2 :=
  ⟨hg.os.trans h.os, hg.tape.trans h.tape, hg.output.trans h.output, Nat.le_trans h.size hg.size, fun k hk hs => (hg.block k (Nat.lt_of_lt_of_le hk h.size) (fun e => by have := hv k e.symm; omega)).trans (h.block k hk hs)⟩
def RRRel (rb nb : Nat) (l : List Tok) (w : World) (B : Nat) (f : Fm) (s : ByteArray) (m : Nat) (A : Rd (List Fm)) (g : Nat) (v : Value) (wr : World) : Prop :=
  ∃ (st : Rd Unit) (pre : List Fm), g = toGo st ∧ RSt rb l wr st ∧ GRow (eltDatQ 4 (fun g => g ≠ nb)) 29 B wr v ((f :: pre).map Fm.dat) ∧ (∀ g, v.ownBlock = some g → nb < g) ∧ Own wr nb [.int .i64 0, .slice none 0 0, .slice none 0 0, .slice none 0 0] ∧ Chg [rb] w wr ∧
    pre.length + toGo st ≤ m ∧ A = st.bind fun _ r => (more rUnit s r).map (pre ++ ·)
set_option maxHeartbeats 16000000 in
set_option maxRecDepth 100000 in
theorem rrow_any {rb : Nat} {l : List Tok} (hl : l.length ≤ 1073741820) {n : Nat} (ih : RUnitOK rb l n) {u : Unit} {ks : List Tok} (hkn : ks.length ≤ n) {w : World} (h : RSt rb l w (.ok u ks)) (op : Int) (h0 : -9223372036854775808 ≤ op) (h0' : op ≤ 9223372036854775807) (s : ByteArray)
    {B : Nat} (hB : B ≤ w.heap.size) (hrB : rb < B) {x0 x1 x2 x3 : Value} {f : Fm} (hf : IsFm (fun g => B ≤ g) w x0 x1 x2 x3 f) :
    Calls Tryz.prog 85 #[.pointer (some ⟨rb, 0, none⟩), .int .i64 op, .string s, .agg #[x0, x1, x2, x3]] w (RPostB isFm' B rb l w ((more rUnit s ks).map fun m => fOf op (f :: m))) := by
  have hl2 : l.length ≤ 1073741824 := by omega
  have hlt := h.lt
  have hkl : ks.length ≤ l.length := by obtain ⟨_, _, _, _, _, _, hs, _⟩ := h.good; exact hs.length_le
  have HIH := Lib.hid ih
  clear ih
  obtain ⟨i0, hi0, hz0, hz1', hz2'⟩ := info_parts infoFm
  obtain ⟨b1, c1, b2, c2, b3, c3, rfl, rfl, rfl, rfl, -⟩ := hf.form
  obtain ⟨W, hW⟩ : ∃ W, W = (w.alloc (.cells #[.int .i64 f.op, .slice b1 f.vars.length c1, .slice b2 f.terms.length c2, .slice b3 f.args.length c3] 29)).alloc (.cells #[.int .i64 0, .slice none 0 0, .slice none 0 0, .slice none 0 0] 29) := ⟨_, rfl⟩
  have hx : Ext w W := by rw [hW]; exact (ext_alloc _ _).alloc _
  have hfb : Own W w.heap.size [.int .i64 f.op, .slice b1 f.vars.length c1, .slice b2 f.terms.length c2, .slice b3 f.args.length c3] := by rw [hW]; exact (own4 w _ _ _ _ _).ext (ext_alloc _ _)
  have hnb : Own W (w.heap.size + 1) [.int .i64 0, .slice none 0 0, .slice none 0 0, .slice none 0 0] := by
    rw [hW]; have := own4 (w.alloc (.cells #[.int .i64 f.op, .slice b1 f.vars.length c1, .slice b2 f.terms.length c2, .slice b3 f.args.length c3] 29)) (.int .i64 0) (.slice none 0 0) (.slice none 0 0) (.slice none 0 0) 29
    rw [World.size_alloc] at this; exact this
  have hfW : IsFm (fun g => B ≤ g ∧ g < w.heap.size) W _ _ _ _ f := (Dat.Fs.mono hf fun g hg hlt => ⟨hg, hlt⟩).ext hx
  have hcW := h.ext hx
  go_enter Tryz.func85, Tryz.ntmps85
  go_upto_region 1 with fail
  rw [← hW]
  clear hW hf h
  obtain ⟨fb, hfbe⟩ : ∃ fb, fb = w.heap.size := ⟨_, rfl⟩
  obtain ⟨nb, hnbe⟩ : ∃ nb, nb = w.heap.size + 1 := ⟨_, rfl⟩
  rw [← hnbe] at hnb
  rw [← hfbe] at hfb
  rw [← hnbe, ← hfbe]
  have hw1 : w.heap.size ≤ nb := by omega
  have hnc : nb ≠ rb := by omega
  have hrn : rb < nb := by omega
  clear hfbe hnbe
  obtain ⟨⟨m0, -⟩, ⟨m1, -⟩, ⟨m2, -⟩, ⟨m3, -⟩⟩ := hfb.cells4
  have hnl := hnb.lt
  have hone : GRow (eltDatQ 4 (fun g => g ≠ nb)) 29 B (W.alloc (.cells #[.int .i64 f.op, .slice b1 f.vars.length c1, .slice b2 f.terms.length c2, .slice b3 f.args.length c3] 29)) (.slice (some ⟨W.heap.size, 0, none⟩) 1 1) [f.dat] :=
    GRow.one (by have := hx.size; omega) (fm_elQ hfW fun g hg hlt => ⟨⟨hg.1, hlt⟩, by omega⟩) _ rfl
  go_wp2_with fail
  clear m0 m1 m2 m3 hfb
  go_loopg [9] (ks.length + 1) (fun g v wr => RRRel rb nb l w B f s (ks.length + 1) (more rUnit s ks) g v wr)
  case atStart => exact ⟨.ok u ks, [], rfl, hcW.ext (ext_alloc _ _), hone, fun g hg => by injection hg with hg; dsimp only at hg; omega, hnb.ext (ext_alloc _ _), Chg.of_ext (hx.alloc _), by simp [toGo], by rw [Rd.bind_ok]; cases more rUnit s ks <;> rfl⟩
  case round =>
    obtain ⟨st, pre, hg, hst, hrow, hob, hnw, hq, hlen, hA⟩ := hrel
    have HG := Lib.hid hg
    have HA := Lib.hid hA
    have HML := Lib.hid (show ((f :: pre).map Fm.dat).length = pre.length + 1 by simp)
    obtain ⟨va, vc, hv, hvc⟩ := hrow.form
    rw [HML.out] at hv hvc
    subst hv
    clear hg hA hone hcW
    have HT := rtake_any hl2 hst s
    have hpl : pre.length ≤ 1073741822 := by omega
    cases hb : takeB s st with
    | true =>
      obtain ⟨r2, r3, rfl, ht, hS, hr3⟩ := take_true hb
      rw [hb, hS] at HT
      replace HT := Lib.hid HT
      clear hS hb
      have hlen2 : pre.length + (r2.length + 1) ≤ ks.length + 1 := hlen
      have HTT := Lib.hid (fun w' (h : RSt rb l w' (.ok () r3)) => HIH.out (.ok () r3) (by simp only [toGo]; omega) w' h)
      unfold RPost at HTT
      simp only [Rd.bind_ok] at HTT
      have HAT := Lib.hid ht
      have HG2 := Lib.hid (show _ = r2.length + 1 from HG.out)
      clear ht hlen HG
      have hsz := hq.size
      have hown := hob
      clear hob
      have HOB := Lib.hid hown
      clear hown
      go_wp2_with (first
        | (go_at_call 132; refine (HT.out).mono ?_; rintro e w7 ⟨rfl, hc7, hx7⟩; have hrow7 := hrow.chg hx7 (by simp; omega); have hnw7 := hnw.chg hx7 (by simpa using hnc); have hq7 := hq.trans hx7; have hsz7 := hq7.size; have hnl7 := hnw7.lt)
        | (go_at_call 83; refine (HTT.out _ hc7).mono ?_; rintro e w4 ⟨hx4, hst4, v4, x4, rfl, ⟨xa, xv, xc, xd, rfl, hex⟩, hval⟩; have hrow4 := hrow7.chg hx4 (by simp; omega); have hnw4 := hnw7.chg hx4 (by simpa using hnc); have hsz4 := hx4.size; (obtain ⟨d1, e1, d2, e2, d3, e3, rfl, rfl, rfl, rfl, -⟩ := hex.form))
        | (at_builtin; refine wpList_append_row rfl _ _ _ rfl 29 i0 _ 80 Tryz.underlying27 hi0 hz0 hz1' hz2' rfl (show (0 : Nat) < 4 by decide) B (.slice va (pre.length + 1) vc) ((f :: pre).map Fm.dat) rfl w4 hrow4 (ext_alloc _ _) w4.heap.size rfl _ _ (heap_alloc_new _ _) x4.dat (fm_elQ (hex.ext (ext_alloc _ _)) fun g hg hlt => (show (B ≤ g ∧ (Value.slice va (pre.length + 1) vc).ownBlock ≠ some g) ∧ g ≠ nb from ⟨⟨by omega, fun e => by have := (hrow7.own_ge e).2; omega⟩, by omega⟩)) (by go_light; rw [HML.out]; simp only [maxLen]; omega) (by go_light; rw [HML.out]; omega) (by go_light; simp; omega) ?_; intro g5 cap w5 hrow5 hgrow hat hlt5; rw [HML.out] at hrow5 ⊢))
      go_roundg (toGo (rUnit r3).st)
      case measure => have := HG2.out; have := st_left (rUnit_shrinks _) (Nat.le_refl r3.length); go_light; omega
      case rel =>
        have hob := HOB.out
        refine ⟨(rUnit r3).st, pre ++ [x4], rfl, (hst4.ext (ext_alloc _ _)).append hrow4 hrB hgrow, ?_, ?_, ?_, chg_grow ((hq7.trans hx4).alloc _) hgrow (fun g hg => by have := HOB.out g hg; omega), ?_, row_next rUnit_shrinks HA.out HAT.out hval⟩
        · simpa using hrow5
        · intro g hg
          injection hg with hg
          dsimp only at hg
          subst hg
          rcases hat with h1 | h1
          · exact hob _ h1
          · simp at h1; omega
        · exact own_append (hnw4.ext (ext_alloc _ _)) hgrow (fun e => by have := hob nb e; omega)
        · have := st_left (rUnit_shrinks _) (Nat.le_refl r3.length)
          simp; omega
    | false =>
      obtain ⟨hA, hS⟩ := row_end rUnit_shrinks HA.out hb
      rw [hb, hS] at HT
      replace HT := Lib.hid HT
      have HA2 := Lib.hid hA
      clear hA hS hb
      obtain ⟨oa, oc, ho, hoc, hod⟩ := GRow.datQ (by decide) hrow (fun g hg => by have := hob g hg; omega)
      rw [HML.out] at ho hoc
      injection ho with e1 _ e3
      subst e1; subst e3
      have hdat : IsFms (fun g => B ≤ g ∧ g ≠ nb) wr va (f :: pre) := by unfold IsFms; rw [Fm.dats_map]; exact hod
      have hsz := hq.size
      clear hod hoc hrow hob hlen
      have HO := Lib.hid (fun w' (hx : Chg [rb] wr w') => rof_any op (P := fun g => B ≤ g ∧ g ≠ nb) (l := f :: pre) (c := vc) (Dat.Rows.chg hdat hx (fun g hg => by simp; omega)) (by simp; omega))
      simp only [List.length_cons] at HO
      go_wp2_with (first | (go_at_call 132; refine (HT.out).mono ?_; rintro e w7 ⟨rfl, hc7, hx7⟩) | (go_at_call 86; refine (HO.out _ hx7).mono ?_; rintro e w8 ⟨⟨a8, c8, rfl, hc8, hf8⟩, hx8⟩; have hn8 := (hnw.chg hx7 (by simpa using hnc)).ext hx8; have hnl7 := (hnw.chg hx7 (by simpa using hnc)).lt; (obtain ⟨⟨n0, g0⟩, ⟨n1, g1⟩, ⟨n2, g2⟩, ⟨n3, g3⟩⟩ := hn8.cells4); have hnl8 := hn8.lt))
      refine rfin4 ((hq.trans hx7).trans (Chg.of_ext hx8)) hw1 hrn (hc7.ext hx8) hn8 (fun W2 r0 r1 r2 r3 => by simp [results, Tryz.results85, go_sem, r0, r1, r2, r3]) rfl fun W2 k1 k2 k3 => ⟨k2, ?_⟩
      rw [HA2.out]
      refine ⟨by cases st <;> exact k1, _, fOf op (f :: pre), rfl, ⟨_, _, _, _, rfl, fm_args (l := f :: pre) h0 h0' hc8 (Dat.Rows.mono (Dat.Rows.chg hf8 k3 (fun g hg => by simp at hg ⊢; omega)) fun g hg _ => by simp at hg; have := hx7.size; omega)⟩, fun x k he => ?_⟩
      cases st with
      | bad k => cases he
      | ok u k => injection he
end Go.Proofs.YtnclgkdpafhogaaGreat
