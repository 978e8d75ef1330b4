/- What the reference's Text of the clause layer returns. -/
import Derived.Test.YtoidhdcbemmfhaaDoorCl4
import Derived.Test.YtoidhdcbemmfhaaDoorCl3
namespace Go.Proofs.YtoidhdcbemmfhaaDoor
open Go.ChangeShapes Go.WideShapes Go.ChangeAt Go.RowKit

theorem catR_tt0 (M S T : List UInt8) : str [] ++ ((⟨#[126, 32]⟩ : ByteArray) ++ ⟨S.toArray⟩) = str ([126, 32] ++ S) := by
  apply ByteArray.ext; simp [str]
theorem catR_tt1 (M S T : List UInt8) : (str M ++ ⟨#[32, 124, 32]⟩) ++ ((⟨#[126, 32]⟩ : ByteArray) ++ ⟨S.toArray⟩) = str (M ++ [32, 124, 32] ++ ([126, 32] ++ S)) := by
  apply ByteArray.ext; simp [str]
theorem catR_tf0 (M S T : List UInt8) : str [] ++ ((⟨S.toArray⟩ : ByteArray)) = str (S) := by
  apply ByteArray.ext; simp [str]
theorem catR_tf1 (M S T : List UInt8) : (str M ++ ⟨#[32, 124, 32]⟩) ++ ((⟨S.toArray⟩ : ByteArray)) = str (M ++ [32, 124, 32] ++ (S)) := by
  apply ByteArray.ext; simp [str]
theorem catR_ft0 (M S T : List UInt8) : str [] ++ (((⟨S.toArray⟩ : ByteArray) ++ ⟨#[32, 33, 61, 32]⟩) ++ ⟨T.toArray⟩) = str (S ++ ([32, 33, 61, 32] ++ T)) := by
  apply ByteArray.ext; simp [str]
theorem catR_ft1 (M S T : List UInt8) : (str M ++ ⟨#[32, 124, 32]⟩) ++ (((⟨S.toArray⟩ : ByteArray) ++ ⟨#[32, 33, 61, 32]⟩) ++ ⟨T.toArray⟩) = str (M ++ [32, 124, 32] ++ (S ++ ([32, 33, 61, 32] ++ T))) := by
  apply ByteArray.ext; simp [str]
theorem catR_ff0 (M S T : List UInt8) : str [] ++ (((⟨S.toArray⟩ : ByteArray) ++ ⟨#[32, 61, 32]⟩) ++ ⟨T.toArray⟩) = str (S ++ ([32, 61, 32] ++ T)) := by
  apply ByteArray.ext; simp [str]
theorem catR_ff1 (M S T : List UInt8) : (str M ++ ⟨#[32, 124, 32]⟩) ++ (((⟨S.toArray⟩ : ByteArray) ++ ⟨#[32, 61, 32]⟩) ++ ⟨T.toArray⟩) = str (M ++ [32, 124, 32] ++ (S ++ ([32, 61, 32] ++ T))) := by
  apply ByteArray.ext; simp [str]

set_option maxHeartbeats 16000000 in
set_option maxRecDepth 100000 in
theorem refClText_any (l : List Sy) (hl : l.length ≤ 1048576) (c : List Lt) (hcs : ∀ x ∈ c, x.sized) (hcl : c.length ≤ 1048576) (w : World) (a : Option Addr) (n : Nat) (hln : l.length ≤ n) (hn63 : n ≤ 9223372036854775807) (hsy : IsSyms w a l) (ca : Option Addr) (cn : Nat) (hc : IsLits w ca c) :
    Calls Tryd.prog 29 #[.agg #[.slice a l.length n], .slice ca c.length cn] w fun e w' => e = .returned (.tuple #[.string (str (clauseText l c)), .int .i64 (clauseCheck l c)]) ∧ Ext w w' := by
  obtain ⟨W, hW⟩ : ∃ W, W = w.alloc (.cells #[.slice a l.length n] 24) := ⟨_, rfl⟩
  have hx : Ext w W := by subst hW; go_grown
  have k0 : W.cell? ⟨w.heap.size, 0, none⟩ = some (.slice a l.length n) := by subst hW; go_simp
  have hS := refClCheck_any l hl c hcs hcl W a n (hsy.ext hx) ca cn (hc.ext hx)
  have hno := namesOk_of hsy
  obtain ⟨R, hR⟩ : ∃ R, R = clauseText l c := ⟨_, rfl⟩
  rw [← hR]
  have hcase : clauseCheck l c = 0 ∨ clauseCheck l c = 2 := by unfold clauseCheck; split <;> simp
  by_cases hz : clauseCheck l c = 0
  case neg =>
    have hR2 : R = [] := by rw [hR]; unfold clauseText; rw [if_neg hz]
    have hz2 : clauseCheck l c = 2 := hcase.resolve_left hz
    rw [hz2] at hS ⊢
    subst hR2
    have HS := Lib.hid hS; clear hS
    clear hR hz hz2 hcase
    go_enter Tryd.func29, Tryd.ntmps29
    go_wp2_with ((rw [← hW]; refine (HS.out).mono ?_); rintro e w1 ⟨rfl, hx1⟩)
    go_ret2
    exact ⟨rfl, hx.trans hx1⟩
  have h16 : c.length ≤ 16 := by
    unfold clauseCheck at hz
    split at hz
    · rename_i h; exact h.2.1
    · cases hz
  have hR1 : R = if c.length = 0 then [36, 102, 97, 108, 115, 101] else clText l c := by rw [hR]; unfold clauseText; rw [if_pos hz]
  rw [hz] at hS ⊢
  have HS := Lib.hid hS; clear hS
  clear hR hz hcase
  by_cases h0 : c.length = 0
  · rw [if_pos h0] at hR1
    subst hR1
    have h0i : ((c.length : Int) == 0) = true := by rw [beq_iff_eq]; omega
    clear h0
    go_enter Tryd.func29, Tryd.ntmps29
    go_wp2_with ((rw [← hW]; refine (HS.out).mono ?_); rintro e w1 ⟨rfl, hx1⟩)
    go_ret2
    exact ⟨rfl, hx.trans hx1⟩
  rw [if_neg h0] at hR1
  have h0i : ((c.length : Int) == 0) = false := by rw [beq_eq_false_iff_ne]; omega
  have H0 := Lib.hid h0; clear h0
  have HR := Lib.hid hR1; clear hR1
  have Hcs := Lib.hid hcs; clear hcs
  go_enter Tryd.func29, Tryd.ntmps29
  go_wp2_with ((rw [← hW]; clear hW; refine (HS.out).mono ?_); rintro e w1 ⟨rfl, hx1⟩)
  replace k0 := hx1.cell k0
  replace hx := hx.trans hx1
  clear hx1 HS
  go_loopw [6, 7] (fun v i wr => ∃ (k : Nat) (sb : ByteArray), k ≤ c.length ∧ i = .int .i64 k ∧ v = .string sb ∧ sb = str (clText l (c.take k)) ∧ Ext w1 wr) (fun _ i _ => c.length - (intOf i).toNat)
  case atStart => exact ⟨0, ⟨#[]⟩, Nat.zero_le _, rfl, rfl, by simp [clText, Lib.join_nil, str], Below.refl _ _⟩
  case round =>
    obtain ⟨k, sb, hkk, rfl, rfl, hsb, hext⟩ := hrel
    have q0 := hext.cell k0
    have hxr := hx.trans hext
    have hsz : sb.size ≤ 10066368112 := by rw [hsb]; exact clText_le hno (c.take k) (by rw [List.length_take]; omega)
    by_cases hlt : k < c.length
    case neg =>
      have hk1 : ¬ (k : Int) < c.length := by omega
      have hke : k = c.length := by omega
      have hR := HR.out
      rw [hke, List.take_length, ← hR] at hsb
      have Hsb := Lib.hid hsb
      clear hsb hR hke hno HR H0 Hcs
      go_wp2_with fail
      go_ret2
      exact ⟨by rw [Hsb.out]; rfl, hxr⟩
    have hk1 : (k : Int) < c.length := by omega
    obtain ⟨hsl, hsr⟩ := Hcs.out _ (List.getElem_mem hlt)
    obtain ⟨b, o, la, lc, ra, rc, rfl, h1, h2, h3, h4, h5, hL, hRt⟩ := hc k hlt
    have g1 := hxr.cell h1
    have g2 := hxr.cell h2
    have g3 := hxr.cell h3
    have g4 := hxr.cell h4
    have g5 := hxr.cell h5
    clear h1 h2 h3 h4 h5
    have cL := fun w' (h : Ext w w') => refText_any l hl c[k].l hsl w' a n hln hn63 (hsy.ext h) _ _ (hL.ext h)
    have cR := fun w' (h : Ext w w') => refText_any l hl c[k].r hsr w' a n hln hn63 (hsy.ext h) _ _ (hRt.ext h)
    have tR := fun w' (h : Ext w w') => refTrue_any c[k].r w' _ _ (hRt.ext h)
    have hstep := clText_step (l := l) hlt
    have hlit : litText l c[k] = if c[k].r.isTrue = true then (if c[k].neg = true then [126, 32] ++ termText l c[k].l else termText l c[k].l)
      else if c[k].neg = true then termText l c[k].l ++ ([32, 33, 61, 32] ++ termText l c[k].r) else termText l c[k].l ++ ([32, 61, 32] ++ termText l c[k].r) := rfl
    have hleL := termText_le hno c[k].l
    have hleR := termText_le hno c[k].r
    rw [hlit] at hstep
    clear hlit
    generalize termText l c[k].l = SL at cL hstep hleL
    generalize termText l c[k].r = SR at cR hstep hleR
    generalize termCheck l c[k].l = ZL at cL
    generalize termCheck l c[k].r = ZR at cR
    generalize c[k].r.isTrue = TR at tR hstep
    generalize c[k].neg = neg at g1 hstep
    generalize c[k].l.f = lf at g2 cL hL
    generalize c[k].r.f = rf at g4 cR tR hRt
    generalize c[k].l.ks.length = ll at g3 cL hL
    generalize c[k].r.ks.length = rl at g5 cR tR hRt
    have CL := Lib.hid cL
    have CR := Lib.hid cR
    have TRc := Lib.hid tR
    have Hsb := Lib.hid hsb
    clear cL cR tR hL hRt hsb
    clear hsy hc hno
    have hM0 : k = 0 → clText l (c.take k) = [] := by rintro rfl; simp [clText, Lib.join_nil]
    generalize hM : clText l (c.take k) = M at hstep Hsb hM0
    generalize hN : clText l (c.take (k + 1)) = N at hstep
    clear hM
    have Hstep := Lib.hid hstep
    have HN := Lib.hid hN
    clear hstep hN HR H0 Hcs
    obtain ⟨BL, hBL⟩ : ∃ BL, BL = (⟨SL.toArray⟩ : ByteArray) := ⟨_, rfl⟩
    obtain ⟨BR, hBR⟩ : ∃ BR, BR = (⟨SR.toArray⟩ : ByteArray) := ⟨_, rfl⟩
    have hbl : BL.size ≤ 314574000 := by rw [hBL]; exact hleL
    have hbr : BR.size ≤ 314574000 := by rw [hBR]; exact hleR
    rw [← hBL] at CL
    rw [← hBR] at CR
    have HBL := Lib.hid hBL
    have HBR := Lib.hid hBR
    clear hBL hBR hleL hleR
    have hE0 := Below.refl wr.heap.size wr
    have hk0' : (0 : Int) ≤ (k : Int) := by omega
    cases TR with
    | true =>
      cases neg with
      | true =>
        by_cases hz : k = 0
        · have hk0 : ¬ (0 : Int) < (k : Int) := by omega
          rw [if_pos hz] at Hstep
          have hm := hM0 hz
          subst hm
          clear hz hM0
          go_wp2_with fail
          go_region_held3 (fun w' => w'.cell? ⟨w.heap.size, 0, none⟩ = some (.slice a l.length n) ∧ w'.cell? ⟨b, o + k * 5, none⟩ = some (.bool true) ∧ w'.cell? ⟨b, o + k * 5 + 1, none⟩ = some (.int .i64 lf) ∧ w'.cell? ⟨b, o + k * 5 + 2, none⟩ = some (.slice la ll lc) ∧ w'.cell? ⟨b, o + k * 5 + 3, none⟩ = some (.int .i64 rf) ∧ w'.cell? ⟨b, o + k * 5 + 4, none⟩ = some (.slice ra rl rc) ∧ Ext w w' ∧ Ext wr w')
            (((try go_split_ands); refine ⟨?_, ?_, ?_, ?_, ?_, ?_, ?_, ?_⟩ <;> first | (with_reducible assumption) | exact Below.drew (Below.refl _ _) | exact Ext.drew (by assumption) | exact Ext.drew (ext_alloc _ _) | (apply Ext.cell hw'; (with_reducible assumption)) | exact Ext.trans (by assumption) hw' | exact Ext.frozen hw' (by (with_reducible assumption)) (by (with_reducible assumption)) | (go_keep; done)))
            ((go_at_call 13; go_split_ands; with_reducible refine (CL.out _ (by (with_reducible assumption))).mono ?_; rintro e w' ⟨rfl, hw'⟩))
          go_split_ands
          have p0 : w'.cell? ⟨w.heap.size, 0, none⟩ = some (.slice a l.length n) := by with_reducible assumption
          have p1 : w'.cell? ⟨b, o + k * 5, none⟩ = some (.bool true) := by with_reducible assumption
          have p2 : w'.cell? ⟨b, o + k * 5 + 1, none⟩ = some (.int .i64 lf) := by with_reducible assumption
          have p3 : w'.cell? ⟨b, o + k * 5 + 2, none⟩ = some (.slice la ll lc) := by with_reducible assumption
          have p4 : w'.cell? ⟨b, o + k * 5 + 3, none⟩ = some (.int .i64 rf) := by with_reducible assumption
          have p5 : w'.cell? ⟨b, o + k * 5 + 4, none⟩ = some (.slice ra rl rc) := by with_reducible assumption
          have pE : Ext w w' := by with_reducible assumption
          have pF : Ext wr w' := by with_reducible assumption
          clear hE0 q0 g1 g2 g3 g4 g5 CL
          go_wp2_with fail
          go_region_held3 (fun w' => w'.cell? ⟨w.heap.size, 0, none⟩ = some (.slice a l.length n) ∧ w'.cell? ⟨b, o + k * 5, none⟩ = some (.bool true) ∧ w'.cell? ⟨b, o + k * 5 + 1, none⟩ = some (.int .i64 lf) ∧ w'.cell? ⟨b, o + k * 5 + 2, none⟩ = some (.slice la ll lc) ∧ w'.cell? ⟨b, o + k * 5 + 3, none⟩ = some (.int .i64 rf) ∧ w'.cell? ⟨b, o + k * 5 + 4, none⟩ = some (.slice ra rl rc) ∧ Ext w w' ∧ Ext wr w')
            (((try go_split_ands); refine ⟨?_, ?_, ?_, ?_, ?_, ?_, ?_, ?_⟩ <;> first | (with_reducible assumption) | exact Below.drew (Below.refl _ _) | exact Ext.drew (by assumption) | exact Ext.drew (ext_alloc _ _) | (apply Ext.cell hw'; (with_reducible assumption)) | exact Ext.trans (by assumption) hw' | exact Ext.frozen hw' (by (with_reducible assumption)) (by (with_reducible assumption)) | (go_keep; done)))
            ((go_at_call 13; go_split_ands; with_reducible refine (CR.out _ (by (with_reducible assumption))).mono ?_; rintro e w' ⟨rfl, hw'⟩))
          go_split_ands
          have r0 : w'.cell? ⟨w.heap.size, 0, none⟩ = some (.slice a l.length n) := by with_reducible assumption
          have r1 : w'.cell? ⟨b, o + k * 5, none⟩ = some (.bool true) := by with_reducible assumption
          have r2 : w'.cell? ⟨b, o + k * 5 + 1, none⟩ = some (.int .i64 lf) := by with_reducible assumption
          have r3 : w'.cell? ⟨b, o + k * 5 + 2, none⟩ = some (.slice la ll lc) := by with_reducible assumption
          have r4 : w'.cell? ⟨b, o + k * 5 + 3, none⟩ = some (.int .i64 rf) := by with_reducible assumption
          have r5 : w'.cell? ⟨b, o + k * 5 + 4, none⟩ = some (.slice ra rl rc) := by with_reducible assumption
          have rE : Ext w w' := by with_reducible assumption
          have rF : Ext wr w' := by with_reducible assumption
          clear CR
          go_wp2_with ((go_at_call 70; with_reducible refine (TRc.out _ rE).mono ?_; rintro e w5 ⟨rfl, hx5⟩; have y0 := hx5.cell r0; have y1 := hx5.cell r1))
          go_roundw
          case rel => exact ⟨k + 1, _, by omega, by go_num, rfl, by rw [HN.out]; have e := Hstep.out; simp only [if_true, Bool.false_eq_true, if_false] at e; rw [e, Hsb.out, HBL.out]; (try rw [HBR.out]); exact catR_tt0 [] SL SR, hext.trans (rF.trans hx5)⟩
          case measure => simp [intOf]; omega
        · have hk0 : (0 : Int) < (k : Int) := by omega
          rw [if_neg hz] at Hstep
          clear hz hM0
          go_wp2_with fail
          go_region_held3 (fun w' => w'.cell? ⟨w.heap.size, 0, none⟩ = some (.slice a l.length n) ∧ w'.cell? ⟨b, o + k * 5, none⟩ = some (.bool true) ∧ w'.cell? ⟨b, o + k * 5 + 1, none⟩ = some (.int .i64 lf) ∧ w'.cell? ⟨b, o + k * 5 + 2, none⟩ = some (.slice la ll lc) ∧ w'.cell? ⟨b, o + k * 5 + 3, none⟩ = some (.int .i64 rf) ∧ w'.cell? ⟨b, o + k * 5 + 4, none⟩ = some (.slice ra rl rc) ∧ Ext w w' ∧ Ext wr w')
            (((try go_split_ands); refine ⟨?_, ?_, ?_, ?_, ?_, ?_, ?_, ?_⟩ <;> first | (with_reducible assumption) | exact Below.drew (Below.refl _ _) | exact Ext.drew (by assumption) | exact Ext.drew (ext_alloc _ _) | (apply Ext.cell hw'; (with_reducible assumption)) | exact Ext.trans (by assumption) hw' | exact Ext.frozen hw' (by (with_reducible assumption)) (by (with_reducible assumption)) | (go_keep; done)))
            ((go_at_call 13; go_split_ands; with_reducible refine (CL.out _ (by (with_reducible assumption))).mono ?_; rintro e w' ⟨rfl, hw'⟩))
          go_split_ands
          have p0 : w'.cell? ⟨w.heap.size, 0, none⟩ = some (.slice a l.length n) := by with_reducible assumption
          have p1 : w'.cell? ⟨b, o + k * 5, none⟩ = some (.bool true) := by with_reducible assumption
          have p2 : w'.cell? ⟨b, o + k * 5 + 1, none⟩ = some (.int .i64 lf) := by with_reducible assumption
          have p3 : w'.cell? ⟨b, o + k * 5 + 2, none⟩ = some (.slice la ll lc) := by with_reducible assumption
          have p4 : w'.cell? ⟨b, o + k * 5 + 3, none⟩ = some (.int .i64 rf) := by with_reducible assumption
          have p5 : w'.cell? ⟨b, o + k * 5 + 4, none⟩ = some (.slice ra rl rc) := by with_reducible assumption
          have pE : Ext w w' := by with_reducible assumption
          have pF : Ext wr w' := by with_reducible assumption
          clear hE0 q0 g1 g2 g3 g4 g5 CL
          go_wp2_with fail
          go_region_held3 (fun w' => w'.cell? ⟨w.heap.size, 0, none⟩ = some (.slice a l.length n) ∧ w'.cell? ⟨b, o + k * 5, none⟩ = some (.bool true) ∧ w'.cell? ⟨b, o + k * 5 + 1, none⟩ = some (.int .i64 lf) ∧ w'.cell? ⟨b, o + k * 5 + 2, none⟩ = some (.slice la ll lc) ∧ w'.cell? ⟨b, o + k * 5 + 3, none⟩ = some (.int .i64 rf) ∧ w'.cell? ⟨b, o + k * 5 + 4, none⟩ = some (.slice ra rl rc) ∧ Ext w w' ∧ Ext wr w')
            (((try go_split_ands); refine ⟨?_, ?_, ?_, ?_, ?_, ?_, ?_, ?_⟩ <;> first | (with_reducible assumption) | exact Below.drew (Below.refl _ _) | exact Ext.drew (by assumption) | exact Ext.drew (ext_alloc _ _) | (apply Ext.cell hw'; (with_reducible assumption)) | exact Ext.trans (by assumption) hw' | exact Ext.frozen hw' (by (with_reducible assumption)) (by (with_reducible assumption)) | (go_keep; done)))
            ((go_at_call 13; go_split_ands; with_reducible refine (CR.out _ (by (with_reducible assumption))).mono ?_; rintro e w' ⟨rfl, hw'⟩))
          go_split_ands
          have r0 : w'.cell? ⟨w.heap.size, 0, none⟩ = some (.slice a l.length n) := by with_reducible assumption
          have r1 : w'.cell? ⟨b, o + k * 5, none⟩ = some (.bool true) := by with_reducible assumption
          have r2 : w'.cell? ⟨b, o + k * 5 + 1, none⟩ = some (.int .i64 lf) := by with_reducible assumption
          have r3 : w'.cell? ⟨b, o + k * 5 + 2, none⟩ = some (.slice la ll lc) := by with_reducible assumption
          have r4 : w'.cell? ⟨b, o + k * 5 + 3, none⟩ = some (.int .i64 rf) := by with_reducible assumption
          have r5 : w'.cell? ⟨b, o + k * 5 + 4, none⟩ = some (.slice ra rl rc) := by with_reducible assumption
          have rE : Ext w w' := by with_reducible assumption
          have rF : Ext wr w' := by with_reducible assumption
          clear CR
          go_wp2_with ((go_at_call 70; with_reducible refine (TRc.out _ rE).mono ?_; rintro e w5 ⟨rfl, hx5⟩; have y0 := hx5.cell r0; have y1 := hx5.cell r1))
          go_roundw
          case rel => exact ⟨k + 1, _, by omega, by go_num, rfl, by rw [HN.out]; have e := Hstep.out; simp only [if_true, Bool.false_eq_true, if_false] at e; rw [e, Hsb.out, HBL.out]; (try rw [HBR.out]); exact catR_tt1 M SL SR, hext.trans (rF.trans hx5)⟩
          case measure => simp [intOf]; omega
      | false =>
        by_cases hz : k = 0
        · have hk0 : ¬ (0 : Int) < (k : Int) := by omega
          rw [if_pos hz] at Hstep
          have hm := hM0 hz
          subst hm
          clear hz hM0
          go_wp2_with fail
          go_region_held3 (fun w' => w'.cell? ⟨w.heap.size, 0, none⟩ = some (.slice a l.length n) ∧ w'.cell? ⟨b, o + k * 5, none⟩ = some (.bool false) ∧ w'.cell? ⟨b, o + k * 5 + 1, none⟩ = some (.int .i64 lf) ∧ w'.cell? ⟨b, o + k * 5 + 2, none⟩ = some (.slice la ll lc) ∧ w'.cell? ⟨b, o + k * 5 + 3, none⟩ = some (.int .i64 rf) ∧ w'.cell? ⟨b, o + k * 5 + 4, none⟩ = some (.slice ra rl rc) ∧ Ext w w' ∧ Ext wr w')
            (((try go_split_ands); refine ⟨?_, ?_, ?_, ?_, ?_, ?_, ?_, ?_⟩ <;> first | (with_reducible assumption) | exact Below.drew (Below.refl _ _) | exact Ext.drew (by assumption) | exact Ext.drew (ext_alloc _ _) | (apply Ext.cell hw'; (with_reducible assumption)) | exact Ext.trans (by assumption) hw' | exact Ext.frozen hw' (by (with_reducible assumption)) (by (with_reducible assumption)) | (go_keep; done)))
            ((go_at_call 13; go_split_ands; with_reducible refine (CL.out _ (by (with_reducible assumption))).mono ?_; rintro e w' ⟨rfl, hw'⟩))
          go_split_ands
          have p0 : w'.cell? ⟨w.heap.size, 0, none⟩ = some (.slice a l.length n) := by with_reducible assumption
          have p1 : w'.cell? ⟨b, o + k * 5, none⟩ = some (.bool false) := by with_reducible assumption
          have p2 : w'.cell? ⟨b, o + k * 5 + 1, none⟩ = some (.int .i64 lf) := by with_reducible assumption
          have p3 : w'.cell? ⟨b, o + k * 5 + 2, none⟩ = some (.slice la ll lc) := by with_reducible assumption
          have p4 : w'.cell? ⟨b, o + k * 5 + 3, none⟩ = some (.int .i64 rf) := by with_reducible assumption
          have p5 : w'.cell? ⟨b, o + k * 5 + 4, none⟩ = some (.slice ra rl rc) := by with_reducible assumption
          have pE : Ext w w' := by with_reducible assumption
          have pF : Ext wr w' := by with_reducible assumption
          clear hE0 q0 g1 g2 g3 g4 g5 CL
          go_wp2_with fail
          go_region_held3 (fun w' => w'.cell? ⟨w.heap.size, 0, none⟩ = some (.slice a l.length n) ∧ w'.cell? ⟨b, o + k * 5, none⟩ = some (.bool false) ∧ w'.cell? ⟨b, o + k * 5 + 1, none⟩ = some (.int .i64 lf) ∧ w'.cell? ⟨b, o + k * 5 + 2, none⟩ = some (.slice la ll lc) ∧ w'.cell? ⟨b, o + k * 5 + 3, none⟩ = some (.int .i64 rf) ∧ w'.cell? ⟨b, o + k * 5 + 4, none⟩ = some (.slice ra rl rc) ∧ Ext w w' ∧ Ext wr w')
            (((try go_split_ands); refine ⟨?_, ?_, ?_, ?_, ?_, ?_, ?_, ?_⟩ <;> first | (with_reducible assumption) | exact Below.drew (Below.refl _ _) | exact Ext.drew (by assumption) | exact Ext.drew (ext_alloc _ _) | (apply Ext.cell hw'; (with_reducible assumption)) | exact Ext.trans (by assumption) hw' | exact Ext.frozen hw' (by (with_reducible assumption)) (by (with_reducible assumption)) | (go_keep; done)))
            ((go_at_call 13; go_split_ands; with_reducible refine (CR.out _ (by (with_reducible assumption))).mono ?_; rintro e w' ⟨rfl, hw'⟩))
          go_split_ands
          have r0 : w'.cell? ⟨w.heap.size, 0, none⟩ = some (.slice a l.length n) := by with_reducible assumption
          have r1 : w'.cell? ⟨b, o + k * 5, none⟩ = some (.bool false) := by with_reducible assumption
          have r2 : w'.cell? ⟨b, o + k * 5 + 1, none⟩ = some (.int .i64 lf) := by with_reducible assumption
          have r3 : w'.cell? ⟨b, o + k * 5 + 2, none⟩ = some (.slice la ll lc) := by with_reducible assumption
          have r4 : w'.cell? ⟨b, o + k * 5 + 3, none⟩ = some (.int .i64 rf) := by with_reducible assumption
          have r5 : w'.cell? ⟨b, o + k * 5 + 4, none⟩ = some (.slice ra rl rc) := by with_reducible assumption
          have rE : Ext w w' := by with_reducible assumption
          have rF : Ext wr w' := by with_reducible assumption
          clear CR
          go_wp2_with ((go_at_call 70; with_reducible refine (TRc.out _ rE).mono ?_; rintro e w5 ⟨rfl, hx5⟩; have y0 := hx5.cell r0; have y1 := hx5.cell r1))
          go_roundw
          case rel => exact ⟨k + 1, _, by omega, by go_num, rfl, by rw [HN.out]; have e := Hstep.out; simp only [if_true, Bool.false_eq_true, if_false] at e; rw [e, Hsb.out, HBL.out]; (try rw [HBR.out]); exact catR_tf0 [] SL SR, hext.trans (rF.trans hx5)⟩
          case measure => simp [intOf]; omega
        · have hk0 : (0 : Int) < (k : Int) := by omega
          rw [if_neg hz] at Hstep
          clear hz hM0
          go_wp2_with fail
          go_region_held3 (fun w' => w'.cell? ⟨w.heap.size, 0, none⟩ = some (.slice a l.length n) ∧ w'.cell? ⟨b, o + k * 5, none⟩ = some (.bool false) ∧ w'.cell? ⟨b, o + k * 5 + 1, none⟩ = some (.int .i64 lf) ∧ w'.cell? ⟨b, o + k * 5 + 2, none⟩ = some (.slice la ll lc) ∧ w'.cell? ⟨b, o + k * 5 + 3, none⟩ = some (.int .i64 rf) ∧ w'.cell? ⟨b, o + k * 5 + 4, none⟩ = some (.slice ra rl rc) ∧ Ext w w' ∧ Ext wr w')
            (((try go_split_ands); refine ⟨?_, ?_, ?_, ?_, ?_, ?_, ?_, ?_⟩ <;> first | (with_reducible assumption) | exact Below.drew (Below.refl _ _) | exact Ext.drew (by assumption) | exact Ext.drew (ext_alloc _ _) | (apply Ext.cell hw'; (with_reducible assumption)) | exact Ext.trans (by assumption) hw' | exact Ext.frozen hw' (by (with_reducible assumption)) (by (with_reducible assumption)) | (go_keep; done)))
            ((go_at_call 13; go_split_ands; with_reducible refine (CL.out _ (by (with_reducible assumption))).mono ?_; rintro e w' ⟨rfl, hw'⟩))
          go_split_ands
          have p0 : w'.cell? ⟨w.heap.size, 0, none⟩ = some (.slice a l.length n) := by with_reducible assumption
          have p1 : w'.cell? ⟨b, o + k * 5, none⟩ = some (.bool false) := by with_reducible assumption
          have p2 : w'.cell? ⟨b, o + k * 5 + 1, none⟩ = some (.int .i64 lf) := by with_reducible assumption
          have p3 : w'.cell? ⟨b, o + k * 5 + 2, none⟩ = some (.slice la ll lc) := by with_reducible assumption
          have p4 : w'.cell? ⟨b, o + k * 5 + 3, none⟩ = some (.int .i64 rf) := by with_reducible assumption
          have p5 : w'.cell? ⟨b, o + k * 5 + 4, none⟩ = some (.slice ra rl rc) := by with_reducible assumption
          have pE : Ext w w' := by with_reducible assumption
          have pF : Ext wr w' := by with_reducible assumption
          clear hE0 q0 g1 g2 g3 g4 g5 CL
          go_wp2_with fail
          go_region_held3 (fun w' => w'.cell? ⟨w.heap.size, 0, none⟩ = some (.slice a l.length n) ∧ w'.cell? ⟨b, o + k * 5, none⟩ = some (.bool false) ∧ w'.cell? ⟨b, o + k * 5 + 1, none⟩ = some (.int .i64 lf) ∧ w'.cell? ⟨b, o + k * 5 + 2, none⟩ = some (.slice la ll lc) ∧ w'.cell? ⟨b, o + k * 5 + 3, none⟩ = some (.int .i64 rf) ∧ w'.cell? ⟨b, o + k * 5 + 4, none⟩ = some (.slice ra rl rc) ∧ Ext w w' ∧ Ext wr w')
            (((try go_split_ands); refine ⟨?_, ?_, ?_, ?_, ?_, ?_, ?_, ?_⟩ <;> first | (with_reducible assumption) | exact Below.drew (Below.refl _ _) | exact Ext.drew (by assumption) | exact Ext.drew (ext_alloc _ _) | (apply Ext.cell hw'; (with_reducible assumption)) | exact Ext.trans (by assumption) hw' | exact Ext.frozen hw' (by (with_reducible assumption)) (by (with_reducible assumption)) | (go_keep; done)))
            ((go_at_call 13; go_split_ands; with_reducible refine (CR.out _ (by (with_reducible assumption))).mono ?_; rintro e w' ⟨rfl, hw'⟩))
          go_split_ands
          have r0 : w'.cell? ⟨w.heap.size, 0, none⟩ = some (.slice a l.length n) := by with_reducible assumption
          have r1 : w'.cell? ⟨b, o + k * 5, none⟩ = some (.bool false) := by with_reducible assumption
          have r2 : w'.cell? ⟨b, o + k * 5 + 1, none⟩ = some (.int .i64 lf) := by with_reducible assumption
          have r3 : w'.cell? ⟨b, o + k * 5 + 2, none⟩ = some (.slice la ll lc) := by with_reducible assumption
          have r4 : w'.cell? ⟨b, o + k * 5 + 3, none⟩ = some (.int .i64 rf) := by with_reducible assumption
          have r5 : w'.cell? ⟨b, o + k * 5 + 4, none⟩ = some (.slice ra rl rc) := by with_reducible assumption
          have rE : Ext w w' := by with_reducible assumption
          have rF : Ext wr w' := by with_reducible assumption
          clear CR
          go_wp2_with ((go_at_call 70; with_reducible refine (TRc.out _ rE).mono ?_; rintro e w5 ⟨rfl, hx5⟩; have y0 := hx5.cell r0; have y1 := hx5.cell r1))
          go_roundw
          case rel => exact ⟨k + 1, _, by omega, by go_num, rfl, by rw [HN.out]; have e := Hstep.out; simp only [if_true, Bool.false_eq_true, if_false] at e; rw [e, Hsb.out, HBL.out]; (try rw [HBR.out]); exact catR_tf1 M SL SR, hext.trans (rF.trans hx5)⟩
          case measure => simp [intOf]; omega
    | false =>
      cases neg with
      | true =>
        by_cases hz : k = 0
        · have hk0 : ¬ (0 : Int) < (k : Int) := by omega
          rw [if_pos hz] at Hstep
          have hm := hM0 hz
          subst hm
          clear hz hM0
          go_wp2_with fail
          go_region_held3 (fun w' => w'.cell? ⟨w.heap.size, 0, none⟩ = some (.slice a l.length n) ∧ w'.cell? ⟨b, o + k * 5, none⟩ = some (.bool true) ∧ w'.cell? ⟨b, o + k * 5 + 1, none⟩ = some (.int .i64 lf) ∧ w'.cell? ⟨b, o + k * 5 + 2, none⟩ = some (.slice la ll lc) ∧ w'.cell? ⟨b, o + k * 5 + 3, none⟩ = some (.int .i64 rf) ∧ w'.cell? ⟨b, o + k * 5 + 4, none⟩ = some (.slice ra rl rc) ∧ Ext w w' ∧ Ext wr w')
            (((try go_split_ands); refine ⟨?_, ?_, ?_, ?_, ?_, ?_, ?_, ?_⟩ <;> first | (with_reducible assumption) | exact Below.drew (Below.refl _ _) | exact Ext.drew (by assumption) | exact Ext.drew (ext_alloc _ _) | (apply Ext.cell hw'; (with_reducible assumption)) | exact Ext.trans (by assumption) hw' | exact Ext.frozen hw' (by (with_reducible assumption)) (by (with_reducible assumption)) | (go_keep; done)))
            ((go_at_call 13; go_split_ands; with_reducible refine (CL.out _ (by (with_reducible assumption))).mono ?_; rintro e w' ⟨rfl, hw'⟩))
          go_split_ands
          have p0 : w'.cell? ⟨w.heap.size, 0, none⟩ = some (.slice a l.length n) := by with_reducible assumption
          have p1 : w'.cell? ⟨b, o + k * 5, none⟩ = some (.bool true) := by with_reducible assumption
          have p2 : w'.cell? ⟨b, o + k * 5 + 1, none⟩ = some (.int .i64 lf) := by with_reducible assumption
          have p3 : w'.cell? ⟨b, o + k * 5 + 2, none⟩ = some (.slice la ll lc) := by with_reducible assumption
          have p4 : w'.cell? ⟨b, o + k * 5 + 3, none⟩ = some (.int .i64 rf) := by with_reducible assumption
          have p5 : w'.cell? ⟨b, o + k * 5 + 4, none⟩ = some (.slice ra rl rc) := by with_reducible assumption
          have pE : Ext w w' := by with_reducible assumption
          have pF : Ext wr w' := by with_reducible assumption
          clear hE0 q0 g1 g2 g3 g4 g5 CL
          go_wp2_with fail
          go_region_held3 (fun w' => w'.cell? ⟨w.heap.size, 0, none⟩ = some (.slice a l.length n) ∧ w'.cell? ⟨b, o + k * 5, none⟩ = some (.bool true) ∧ w'.cell? ⟨b, o + k * 5 + 1, none⟩ = some (.int .i64 lf) ∧ w'.cell? ⟨b, o + k * 5 + 2, none⟩ = some (.slice la ll lc) ∧ w'.cell? ⟨b, o + k * 5 + 3, none⟩ = some (.int .i64 rf) ∧ w'.cell? ⟨b, o + k * 5 + 4, none⟩ = some (.slice ra rl rc) ∧ Ext w w' ∧ Ext wr w')
            (((try go_split_ands); refine ⟨?_, ?_, ?_, ?_, ?_, ?_, ?_, ?_⟩ <;> first | (with_reducible assumption) | exact Below.drew (Below.refl _ _) | exact Ext.drew (by assumption) | exact Ext.drew (ext_alloc _ _) | (apply Ext.cell hw'; (with_reducible assumption)) | exact Ext.trans (by assumption) hw' | exact Ext.frozen hw' (by (with_reducible assumption)) (by (with_reducible assumption)) | (go_keep; done)))
            ((go_at_call 13; go_split_ands; with_reducible refine (CR.out _ (by (with_reducible assumption))).mono ?_; rintro e w' ⟨rfl, hw'⟩))
          go_split_ands
          have r0 : w'.cell? ⟨w.heap.size, 0, none⟩ = some (.slice a l.length n) := by with_reducible assumption
          have r1 : w'.cell? ⟨b, o + k * 5, none⟩ = some (.bool true) := by with_reducible assumption
          have r2 : w'.cell? ⟨b, o + k * 5 + 1, none⟩ = some (.int .i64 lf) := by with_reducible assumption
          have r3 : w'.cell? ⟨b, o + k * 5 + 2, none⟩ = some (.slice la ll lc) := by with_reducible assumption
          have r4 : w'.cell? ⟨b, o + k * 5 + 3, none⟩ = some (.int .i64 rf) := by with_reducible assumption
          have r5 : w'.cell? ⟨b, o + k * 5 + 4, none⟩ = some (.slice ra rl rc) := by with_reducible assumption
          have rE : Ext w w' := by with_reducible assumption
          have rF : Ext wr w' := by with_reducible assumption
          clear CR
          go_wp2_with ((go_at_call 70; with_reducible refine (TRc.out _ rE).mono ?_; rintro e w5 ⟨rfl, hx5⟩; have y0 := hx5.cell r0; have y1 := hx5.cell r1))
          go_roundw
          case rel => exact ⟨k + 1, _, by omega, by go_num, rfl, by rw [HN.out]; have e := Hstep.out; simp only [if_true, Bool.false_eq_true, if_false] at e; rw [e, Hsb.out, HBL.out]; (try rw [HBR.out]); exact catR_ft0 [] SL SR, hext.trans (rF.trans hx5)⟩
          case measure => simp [intOf]; omega
        · have hk0 : (0 : Int) < (k : Int) := by omega
          rw [if_neg hz] at Hstep
          clear hz hM0
          go_wp2_with fail
          go_region_held3 (fun w' => w'.cell? ⟨w.heap.size, 0, none⟩ = some (.slice a l.length n) ∧ w'.cell? ⟨b, o + k * 5, none⟩ = some (.bool true) ∧ w'.cell? ⟨b, o + k * 5 + 1, none⟩ = some (.int .i64 lf) ∧ w'.cell? ⟨b, o + k * 5 + 2, none⟩ = some (.slice la ll lc) ∧ w'.cell? ⟨b, o + k * 5 + 3, none⟩ = some (.int .i64 rf) ∧ w'.cell? ⟨b, o + k * 5 + 4, none⟩ = some (.slice ra rl rc) ∧ Ext w w' ∧ Ext wr w')
            (((try go_split_ands); refine ⟨?_, ?_, ?_, ?_, ?_, ?_, ?_, ?_⟩ <;> first | (with_reducible assumption) | exact Below.drew (Below.refl _ _) | exact Ext.drew (by assumption) | exact Ext.drew (ext_alloc _ _) | (apply Ext.cell hw'; (with_reducible assumption)) | exact Ext.trans (by assumption) hw' | exact Ext.frozen hw' (by (with_reducible assumption)) (by (with_reducible assumption)) | (go_keep; done)))
            ((go_at_call 13; go_split_ands; with_reducible refine (CL.out _ (by (with_reducible assumption))).mono ?_; rintro e w' ⟨rfl, hw'⟩))
          go_split_ands
          have p0 : w'.cell? ⟨w.heap.size, 0, none⟩ = some (.slice a l.length n) := by with_reducible assumption
          have p1 : w'.cell? ⟨b, o + k * 5, none⟩ = some (.bool true) := by with_reducible assumption
          have p2 : w'.cell? ⟨b, o + k * 5 + 1, none⟩ = some (.int .i64 lf) := by with_reducible assumption
          have p3 : w'.cell? ⟨b, o + k * 5 + 2, none⟩ = some (.slice la ll lc) := by with_reducible assumption
          have p4 : w'.cell? ⟨b, o + k * 5 + 3, none⟩ = some (.int .i64 rf) := by with_reducible assumption
          have p5 : w'.cell? ⟨b, o + k * 5 + 4, none⟩ = some (.slice ra rl rc) := by with_reducible assumption
          have pE : Ext w w' := by with_reducible assumption
          have pF : Ext wr w' := by with_reducible assumption
          clear hE0 q0 g1 g2 g3 g4 g5 CL
          go_wp2_with fail
          go_region_held3 (fun w' => w'.cell? ⟨w.heap.size, 0, none⟩ = some (.slice a l.length n) ∧ w'.cell? ⟨b, o + k * 5, none⟩ = some (.bool true) ∧ w'.cell? ⟨b, o + k * 5 + 1, none⟩ = some (.int .i64 lf) ∧ w'.cell? ⟨b, o + k * 5 + 2, none⟩ = some (.slice la ll lc) ∧ w'.cell? ⟨b, o + k * 5 + 3, none⟩ = some (.int .i64 rf) ∧ w'.cell? ⟨b, o + k * 5 + 4, none⟩ = some (.slice ra rl rc) ∧ Ext w w' ∧ Ext wr w')
            (((try go_split_ands); refine ⟨?_, ?_, ?_, ?_, ?_, ?_, ?_, ?_⟩ <;> first | (with_reducible assumption) | exact Below.drew (Below.refl _ _) | exact Ext.drew (by assumption) | exact Ext.drew (ext_alloc _ _) | (apply Ext.cell hw'; (with_reducible assumption)) | exact Ext.trans (by assumption) hw' | exact Ext.frozen hw' (by (with_reducible assumption)) (by (with_reducible assumption)) | (go_keep; done)))
            ((go_at_call 13; go_split_ands; with_reducible refine (CR.out _ (by (with_reducible assumption))).mono ?_; rintro e w' ⟨rfl, hw'⟩))
          go_split_ands
          have r0 : w'.cell? ⟨w.heap.size, 0, none⟩ = some (.slice a l.length n) := by with_reducible assumption
          have r1 : w'.cell? ⟨b, o + k * 5, none⟩ = some (.bool true) := by with_reducible assumption
          have r2 : w'.cell? ⟨b, o + k * 5 + 1, none⟩ = some (.int .i64 lf) := by with_reducible assumption
          have r3 : w'.cell? ⟨b, o + k * 5 + 2, none⟩ = some (.slice la ll lc) := by with_reducible assumption
          have r4 : w'.cell? ⟨b, o + k * 5 + 3, none⟩ = some (.int .i64 rf) := by with_reducible assumption
          have r5 : w'.cell? ⟨b, o + k * 5 + 4, none⟩ = some (.slice ra rl rc) := by with_reducible assumption
          have rE : Ext w w' := by with_reducible assumption
          have rF : Ext wr w' := by with_reducible assumption
          clear CR
          go_wp2_with ((go_at_call 70; with_reducible refine (TRc.out _ rE).mono ?_; rintro e w5 ⟨rfl, hx5⟩; have y0 := hx5.cell r0; have y1 := hx5.cell r1))
          go_roundw
          case rel => exact ⟨k + 1, _, by omega, by go_num, rfl, by rw [HN.out]; have e := Hstep.out; simp only [if_true, Bool.false_eq_true, if_false] at e; rw [e, Hsb.out, HBL.out]; (try rw [HBR.out]); exact catR_ft1 M SL SR, hext.trans (rF.trans hx5)⟩
          case measure => simp [intOf]; omega
      | false =>
        by_cases hz : k = 0
        · have hk0 : ¬ (0 : Int) < (k : Int) := by omega
          rw [if_pos hz] at Hstep
          have hm := hM0 hz
          subst hm
          clear hz hM0
          go_wp2_with fail
          go_region_held3 (fun w' => w'.cell? ⟨w.heap.size, 0, none⟩ = some (.slice a l.length n) ∧ w'.cell? ⟨b, o + k * 5, none⟩ = some (.bool false) ∧ w'.cell? ⟨b, o + k * 5 + 1, none⟩ = some (.int .i64 lf) ∧ w'.cell? ⟨b, o + k * 5 + 2, none⟩ = some (.slice la ll lc) ∧ w'.cell? ⟨b, o + k * 5 + 3, none⟩ = some (.int .i64 rf) ∧ w'.cell? ⟨b, o + k * 5 + 4, none⟩ = some (.slice ra rl rc) ∧ Ext w w' ∧ Ext wr w')
            (((try go_split_ands); refine ⟨?_, ?_, ?_, ?_, ?_, ?_, ?_, ?_⟩ <;> first | (with_reducible assumption) | exact Below.drew (Below.refl _ _) | exact Ext.drew (by assumption) | exact Ext.drew (ext_alloc _ _) | (apply Ext.cell hw'; (with_reducible assumption)) | exact Ext.trans (by assumption) hw' | exact Ext.frozen hw' (by (with_reducible assumption)) (by (with_reducible assumption)) | (go_keep; done)))
            ((go_at_call 13; go_split_ands; with_reducible refine (CL.out _ (by (with_reducible assumption))).mono ?_; rintro e w' ⟨rfl, hw'⟩))
          go_split_ands
          have p0 : w'.cell? ⟨w.heap.size, 0, none⟩ = some (.slice a l.length n) := by with_reducible assumption
          have p1 : w'.cell? ⟨b, o + k * 5, none⟩ = some (.bool false) := by with_reducible assumption
          have p2 : w'.cell? ⟨b, o + k * 5 + 1, none⟩ = some (.int .i64 lf) := by with_reducible assumption
          have p3 : w'.cell? ⟨b, o + k * 5 + 2, none⟩ = some (.slice la ll lc) := by with_reducible assumption
          have p4 : w'.cell? ⟨b, o + k * 5 + 3, none⟩ = some (.int .i64 rf) := by with_reducible assumption
          have p5 : w'.cell? ⟨b, o + k * 5 + 4, none⟩ = some (.slice ra rl rc) := by with_reducible assumption
          have pE : Ext w w' := by with_reducible assumption
          have pF : Ext wr w' := by with_reducible assumption
          clear hE0 q0 g1 g2 g3 g4 g5 CL
          go_wp2_with fail
          go_region_held3 (fun w' => w'.cell? ⟨w.heap.size, 0, none⟩ = some (.slice a l.length n) ∧ w'.cell? ⟨b, o + k * 5, none⟩ = some (.bool false) ∧ w'.cell? ⟨b, o + k * 5 + 1, none⟩ = some (.int .i64 lf) ∧ w'.cell? ⟨b, o + k * 5 + 2, none⟩ = some (.slice la ll lc) ∧ w'.cell? ⟨b, o + k * 5 + 3, none⟩ = some (.int .i64 rf) ∧ w'.cell? ⟨b, o + k * 5 + 4, none⟩ = some (.slice ra rl rc) ∧ Ext w w' ∧ Ext wr w')
            (((try go_split_ands); refine ⟨?_, ?_, ?_, ?_, ?_, ?_, ?_, ?_⟩ <;> first | (with_reducible assumption) | exact Below.drew (Below.refl _ _) | exact Ext.drew (by assumption) | exact Ext.drew (ext_alloc _ _) | (apply Ext.cell hw'; (with_reducible assumption)) | exact Ext.trans (by assumption) hw' | exact Ext.frozen hw' (by (with_reducible assumption)) (by (with_reducible assumption)) | (go_keep; done)))
            ((go_at_call 13; go_split_ands; with_reducible refine (CR.out _ (by (with_reducible assumption))).mono ?_; rintro e w' ⟨rfl, hw'⟩))
          go_split_ands
          have r0 : w'.cell? ⟨w.heap.size, 0, none⟩ = some (.slice a l.length n) := by with_reducible assumption
          have r1 : w'.cell? ⟨b, o + k * 5, none⟩ = some (.bool false) := by with_reducible assumption
          have r2 : w'.cell? ⟨b, o + k * 5 + 1, none⟩ = some (.int .i64 lf) := by with_reducible assumption
          have r3 : w'.cell? ⟨b, o + k * 5 + 2, none⟩ = some (.slice la ll lc) := by with_reducible assumption
          have r4 : w'.cell? ⟨b, o + k * 5 + 3, none⟩ = some (.int .i64 rf) := by with_reducible assumption
          have r5 : w'.cell? ⟨b, o + k * 5 + 4, none⟩ = some (.slice ra rl rc) := by with_reducible assumption
          have rE : Ext w w' := by with_reducible assumption
          have rF : Ext wr w' := by with_reducible assumption
          clear CR
          go_wp2_with ((go_at_call 70; with_reducible refine (TRc.out _ rE).mono ?_; rintro e w5 ⟨rfl, hx5⟩; have y0 := hx5.cell r0; have y1 := hx5.cell r1))
          go_roundw
          case rel => exact ⟨k + 1, _, by omega, by go_num, rfl, by rw [HN.out]; have e := Hstep.out; simp only [if_true, Bool.false_eq_true, if_false] at e; rw [e, Hsb.out, HBL.out]; (try rw [HBR.out]); exact catR_ff0 [] SL SR, hext.trans (rF.trans hx5)⟩
          case measure => simp [intOf]; omega
        · have hk0 : (0 : Int) < (k : Int) := by omega
          rw [if_neg hz] at Hstep
          clear hz hM0
          go_wp2_with fail
          go_region_held3 (fun w' => w'.cell? ⟨w.heap.size, 0, none⟩ = some (.slice a l.length n) ∧ w'.cell? ⟨b, o + k * 5, none⟩ = some (.bool false) ∧ w'.cell? ⟨b, o + k * 5 + 1, none⟩ = some (.int .i64 lf) ∧ w'.cell? ⟨b, o + k * 5 + 2, none⟩ = some (.slice la ll lc) ∧ w'.cell? ⟨b, o + k * 5 + 3, none⟩ = some (.int .i64 rf) ∧ w'.cell? ⟨b, o + k * 5 + 4, none⟩ = some (.slice ra rl rc) ∧ Ext w w' ∧ Ext wr w')
            (((try go_split_ands); refine ⟨?_, ?_, ?_, ?_, ?_, ?_, ?_, ?_⟩ <;> first | (with_reducible assumption) | exact Below.drew (Below.refl _ _) | exact Ext.drew (by assumption) | exact Ext.drew (ext_alloc _ _) | (apply Ext.cell hw'; (with_reducible assumption)) | exact Ext.trans (by assumption) hw' | exact Ext.frozen hw' (by (with_reducible assumption)) (by (with_reducible assumption)) | (go_keep; done)))
            ((go_at_call 13; go_split_ands; with_reducible refine (CL.out _ (by (with_reducible assumption))).mono ?_; rintro e w' ⟨rfl, hw'⟩))
          go_split_ands
          have p0 : w'.cell? ⟨w.heap.size, 0, none⟩ = some (.slice a l.length n) := by with_reducible assumption
          have p1 : w'.cell? ⟨b, o + k * 5, none⟩ = some (.bool false) := by with_reducible assumption
          have p2 : w'.cell? ⟨b, o + k * 5 + 1, none⟩ = some (.int .i64 lf) := by with_reducible assumption
          have p3 : w'.cell? ⟨b, o + k * 5 + 2, none⟩ = some (.slice la ll lc) := by with_reducible assumption
          have p4 : w'.cell? ⟨b, o + k * 5 + 3, none⟩ = some (.int .i64 rf) := by with_reducible assumption
          have p5 : w'.cell? ⟨b, o + k * 5 + 4, none⟩ = some (.slice ra rl rc) := by with_reducible assumption
          have pE : Ext w w' := by with_reducible assumption
          have pF : Ext wr w' := by with_reducible assumption
          clear hE0 q0 g1 g2 g3 g4 g5 CL
          go_wp2_with fail
          go_region_held3 (fun w' => w'.cell? ⟨w.heap.size, 0, none⟩ = some (.slice a l.length n) ∧ w'.cell? ⟨b, o + k * 5, none⟩ = some (.bool false) ∧ w'.cell? ⟨b, o + k * 5 + 1, none⟩ = some (.int .i64 lf) ∧ w'.cell? ⟨b, o + k * 5 + 2, none⟩ = some (.slice la ll lc) ∧ w'.cell? ⟨b, o + k * 5 + 3, none⟩ = some (.int .i64 rf) ∧ w'.cell? ⟨b, o + k * 5 + 4, none⟩ = some (.slice ra rl rc) ∧ Ext w w' ∧ Ext wr w')
            (((try go_split_ands); refine ⟨?_, ?_, ?_, ?_, ?_, ?_, ?_, ?_⟩ <;> first | (with_reducible assumption) | exact Below.drew (Below.refl _ _) | exact Ext.drew (by assumption) | exact Ext.drew (ext_alloc _ _) | (apply Ext.cell hw'; (with_reducible assumption)) | exact Ext.trans (by assumption) hw' | exact Ext.frozen hw' (by (with_reducible assumption)) (by (with_reducible assumption)) | (go_keep; done)))
            ((go_at_call 13; go_split_ands; with_reducible refine (CR.out _ (by (with_reducible assumption))).mono ?_; rintro e w' ⟨rfl, hw'⟩))
          go_split_ands
          have r0 : w'.cell? ⟨w.heap.size, 0, none⟩ = some (.slice a l.length n) := by with_reducible assumption
          have r1 : w'.cell? ⟨b, o + k * 5, none⟩ = some (.bool false) := by with_reducible assumption
          have r2 : w'.cell? ⟨b, o + k * 5 + 1, none⟩ = some (.int .i64 lf) := by with_reducible assumption
          have r3 : w'.cell? ⟨b, o + k * 5 + 2, none⟩ = some (.slice la ll lc) := by with_reducible assumption
          have r4 : w'.cell? ⟨b, o + k * 5 + 3, none⟩ = some (.int .i64 rf) := by with_reducible assumption
          have r5 : w'.cell? ⟨b, o + k * 5 + 4, none⟩ = some (.slice ra rl rc) := by with_reducible assumption
          have rE : Ext w w' := by with_reducible assumption
          have rF : Ext wr w' := by with_reducible assumption
          clear CR
          go_wp2_with ((go_at_call 70; with_reducible refine (TRc.out _ rE).mono ?_; rintro e w5 ⟨rfl, hx5⟩; have y0 := hx5.cell r0; have y1 := hx5.cell r1))
          go_roundw
          case rel => exact ⟨k + 1, _, by omega, by go_num, rfl, by rw [HN.out]; have e := Hstep.out; simp only [if_true, Bool.false_eq_true, if_false] at e; rw [e, Hsb.out, HBL.out]; (try rw [HBR.out]); exact catR_ff1 M SL SR, hext.trans (rF.trans hx5)⟩
          case measure => simp [intOf]; omega

end Go.Proofs.YtoidhdcbemmfhaaDoor
