/- What Term of the model layer returns. Conditions: at most 1048576 symbols, rows, numbers in a row, parts of the term, values.
What the reference's Term of the model layer returns. Conditions: at most 1048576 symbols, rows, numbers in a row, parts of the term, values.
What the reference's Vars and Holds of clauses return. Conditions: an interpretation that may be, literals whose terms may be over the signature.
What the reference's True and Clause of the model layer return. Conditions: an interpretation that may be, a clause that may be over the signature, at most eight variables.
What the reference's Clause of the model layer returns. Conditions: at most 1048576 symbols, rows, numbers in a row, literals; terms of at most 2097152 parts. -/
import Derived.Test.YtapoedcmhdlpfaaQ14
import Derived.Test.YtapoedcmhdlpfaaQ13
import Derived.Test.YtapoedcmhdlpfaaQ9
import Derived.Test.YtapoedcmhdlpfaaQ16
import Derived.Test.YtapoedcmhdlpfaaQ17
import Derived.Laws.MakeOwn
import Derived.StillTailTactics
namespace Go.Proofs.Ytapoedcmhdlpfaa
open Go.ChangeShapes Go.WideShapes Go.ChangeAt Go.RowKit Go.Maps
attribute [local go_sem] undef
mutual
theorem vl_low {m : Int} : ∀ {t : Tm}, t.low m = true → ∀ v ∈ t.vl, 0 ≤ v ∧ v < m
  | .mk f ks, h, v, hv => by
    rw [vl_mk, List.mem_append] at hv
    by_cases hf : f < 0
    · obtain ⟨h1, rfl⟩ := low_var h hf
      rw [if_pos hf] at hv
      rcases hv with hv | hv
      · simp at hv; omega
      · simp [Tm.vls] at hv
    · rw [if_neg hf] at hv
      rcases hv with hv | hv
      · simp at hv
      · exact vls_low (low_fun h hf) v hv
theorem vls_low {m : Int} : ∀ {ts : List Tm}, Tm.lows m ts = true → ∀ v ∈ Tm.vls ts, 0 ≤ v ∧ v < m
  | [], _, v, hv => by simp [Tm.vls] at hv
  | t :: ts, h, v, hv => by
    simp only [Tm.lows, Bool.and_eq_true] at h
    simp only [Tm.vls, List.mem_append] at hv
    rcases hv with hv | hv
    · exact vl_low h.1 v hv
    · exact vls_low h.2 v hv
end
theorem join_mem (t : Tm) (v : Int) : v ∈ t.join [] ↔ v ∈ t.vl := by
  obtain ⟨-, h⟩ := join_spec t [] List.Pairwise.nil
  rw [h]; simp
/-- a term that may be: its parts -/
theorem check_parts {l : List Sy} {t : Tm} (h : termCheck l t = 0) : t.low 48 = true ∧ t.over l true = true := by
  unfold termCheck at h
  split at h
  · rename_i h1
    obtain ⟨-, h2, h3⟩ := h1
    unfold Tm.small at h2
    simp only [Bool.and_eq_true] at h2
    exact ⟨h2.2, h3⟩
  · cases h
/-- a value that may be told of a variable -/
def valOk (sz : Int) (vals : List Int) (v : Int) : Bool := decide (v < vals.length) && cellOk sz (vals.getD v.toNat 0)
def valEnv (vs : List Int) (vals : List Int) (v : Int) : Int := if v ∈ vs then vals.getD v.toNat 0 else 0
theorem valEnv_step {vs vals : List Int} {k : Nat} (h : k < vs.length) {v x : Int} (h1 : vs[k] = v) (hx : vals.getD v.toNat 0 = x) : valEnv (vs.take (k + 1)) vals = fun y => if y = v then x else valEnv (vs.take k) vals y := by
  funext y
  unfold valEnv
  rw [List.take_succ_eq_append_getElem h, h1]
  by_cases hy : y = v
  · rw [if_pos hy, if_pos (by rw [hy]; simp), hy, hx]
  · rw [if_neg hy]
    by_cases hm : y ∈ vs.take k
    · rw [if_pos hm, if_pos (List.mem_append_left _ hm)]
    · rw [if_neg hm, if_neg (by simp [hm, hy])]
theorem valEnv_range {s : Nat} (hs : 1 ≤ s) {vs vals : List Int} (h : vs.all (valOk s vals) = true) (v : Int) : 0 ≤ valEnv vs vals v ∧ valEnv vs vals v < (s : Int) := by
  unfold valEnv
  split
  · rename_i hv
    have := List.all_eq_true.1 h v hv
    simp only [valOk, cellOk, Bool.and_eq_true, decide_eq_true_eq] at this
    exact this.2
  · omega
theorem termSays_bad {l : List Sy} {sz : Int} {tb : List (List Int)} {t : Tm} {vals : List Int} (h : ¬ (modCheck l sz tb = 0 ∧ termCheck l t = 0)) : termSays l sz tb t vals = (0, 2) := by unfold termSays; rw [if_neg h]
theorem termSays_none {l : List Sy} {sz : Int} {tb : List (List Int)} {t : Tm} {vals : List Int} (h : modCheck l sz tb = 0 ∧ termCheck l t = 0) (ha : (t.join []).all (valOk sz vals) = false) : termSays l sz tb t vals = (0, 4) := by
  unfold termSays
  rw [if_pos h, if_neg]
  unfold valOk at ha
  rw [ha]; simp
theorem termSays_ok {l : List Sy} {sz : Int} {tb : List (List Int)} {t : Tm} {vals : List Int} (h : modCheck l sz tb = 0 ∧ termCheck l t = 0) (ha : (t.join []).all (valOk sz vals) = true) : termSays l sz tb t vals = (t.val sz tb (valEnv (t.join []) vals), 0) := by
  unfold termSays
  rw [if_pos h, if_pos]
  · rfl
  · exact ha

set_option maxHeartbeats 8000000 in
set_option maxRecDepth 100000 in
theorem mTerm_any (l : List Sy) (hl : l.length ≤ 1048576) (sz : Int) (tb : List (List Int)) (htl : tb.length ≤ 1048576) (hrl : ∀ r ∈ tb, r.length ≤ 1048576) (t : Tm) (hts : t.size ≤ 1048576) (vals : List Int) (_hvl : vals.length ≤ 1048576)
    (w : World) (a : Option Addr) (n : Nat) (hln : l.length ≤ n) (hn63 : n ≤ 9223372036854775807) (hsy : IsSyms w a l) (ta : Option Addr) (tc : Nat) (hT : IsTabs w ta tb) (x y : Value) (ht : IsTm w x y t) (va : Option Addr) (vc : Nat) (hV : IsInts w va vals) :
    Calls Try.prog 7 #[.agg #[.slice a l.length n], .agg #[.int .i64 sz, .slice ta tb.length tc], .agg #[x, y], .slice va vals.length vc] w fun e w' => e = .returned (.tuple #[.int .i64 (termSays l sz tb t vals).1, .int .i64 (termSays l sz tb t vals).2]) ∧ Ext w w' := by
  obtain ⟨xa, xc, rfl, rfl, -, -, -, -⟩ := ht.form
  obtain ⟨W, hW⟩ : ∃ W, W = ((w.alloc (.cells #[.slice a l.length n] 24)).alloc (.cells #[.int .i64 sz, .slice ta tb.length tc] 27)).alloc (.cells #[.int .i64 t.f, .slice xa t.ks.length xc] 30) := ⟨_, rfl⟩
  have hx : Ext w W := by subst hW; go_grown
  have k0 : W.cell? ⟨w.heap.size, 0, none⟩ = some (.slice a l.length n) := by subst hW; go_simp
  have k1 : W.cell? ⟨w.heap.size + 1, 0, none⟩ = some (.int .i64 sz) := by subst hW; go_simp
  have k2 : W.cell? ⟨w.heap.size + 1, 1, none⟩ = some (.slice ta tb.length tc) := by subst hW; go_simp
  have k3 : W.cell? ⟨w.heap.size + 1 + 1, 0, none⟩ = some (.int .i64 t.f) := by subst hW; go_simp
  have k4 : W.cell? ⟨w.heap.size + 1 + 1, 1, none⟩ = some (.slice xa t.ks.length xc) := by subst hW; go_simp
  have hWs : W.heap.size = w.heap.size + 3 := by subst hW; simp
  have hM := modCheck_any l hl sz tb htl hrl W a n hln hn63 (hsy.ext hx) ta tc (hT.ext hx)
  have HTC := Lib.hid (fun w' (h : Ext W w') => termCheck_any l hl t (by omega) w' a n hln hn63 (hsy.ext (hx.trans h)) _ _ (ht.ext (hx.trans h)))
  have HVS := Lib.hid (fun w' (h : Ext W w') => vars_any t w' _ _ (ht.ext (hx.trans h)) (by omega))
  have hB := termSays_bad (l := l) (sz := sz) (tb := tb) (t := t) (vals := vals)
  have hN := termSays_none (l := l) (sz := sz) (tb := tb) (t := t) (vals := vals)
  have hO := termSays_ok (l := l) (sz := sz) (tb := tb) (t := t) (vals := vals)
  generalize termSays l sz tb t vals = R at hB hN hO ⊢
  have hcases : modCheck l sz tb = 0 ∨ modCheck l sz tb = 2 := modCases l sz tb
  obtain ⟨Z, hZ⟩ : ∃ Z, Z = modCheck l sz tb := ⟨_, rfl⟩
  rw [← hZ] at hM hcases hB hN hO
  have HM := Lib.hid hM; clear hM
  rcases hcases with rfl | rfl
  case inr =>
    obtain rfl := hB (fun h => by simp at h)
    clear hB hN hO hZ HTC HVS
    go_enter Try.func7, Try.ntmps7
    go_wp2_with ((rw [← hW]; refine (HM.out).mono ?_); rintro e w1 ⟨rfl, hx1⟩)
    go_ret2
    exact ⟨rfl, hx.trans hx1⟩
  obtain ⟨Y, hY⟩ : ∃ Y, Y = termCheck l t := ⟨_, rfl⟩
  rw [← hY] at HTC hB hN hO
  rcases (show Y = 0 ∨ Y = 2 by rw [hY]; exact (by unfold termCheck; split <;> simp)) with rfl | rfl
  case inr =>
    obtain rfl := hB (fun h => by simp at h)
    clear hB hN hO hZ hY HVS
    go_enter Try.func7, Try.ntmps7
    go_wp2_with (first | (go_at_call 11; rw [← hW]; clear hW; refine (HM.out).mono ?_; rintro e w1 ⟨rfl, hx1⟩; have q0 := hx1.cell k0; have q3 := hx1.cell k3; have q4 := hx1.cell k4) | (go_at_call 17; refine (HTC.out _ hx1).mono ?_; rintro e w2 ⟨rfl, hx2⟩))
    go_ret2
    exact ⟨rfl, hx.trans (hx1.trans hx2)⟩
  clear hB
  obtain ⟨hlow, hov⟩ := check_parts hY.symm
  have hmod := hZ.symm
  obtain ⟨hsg, ⟨s, rfl, hs1, hs3⟩, hlen, -, -⟩ := mod_parts hmod
  rw [vars_eq] at HVS
  have hJl : (t.join []).length ≤ 1048576 := by have := join_length t []; simp at this; omega
  have hJr : ∀ v ∈ t.join [], 0 ≤ v ∧ v < 48 := fun v hv => vl_low hlow v ((join_mem t v).1 hv)
  have HVAL := Lib.hid (fun (env : Int → Int) (he : ∀ v, 0 ≤ env v ∧ env v < (s : Int)) w' (h : Ext w w') mb n' (hE : EnvMap w' mb n' env) => value_any hmod he t true w' ta tc mb n' _ _ (hT.ext h) hE (ht.ext h) hov hlow)
  have HN := Lib.hid (hN ⟨rfl, rfl⟩)
  have HO := Lib.hid (hO ⟨rfl, rfl⟩)
  clear hN hO hZ hY hlen hsg hmod hlow hov ht hT hsy
  generalize t.join [] = J at *
  have HWs := Lib.hid hWs; clear hWs
  have hmm := @run_makeMap Try.prog
  go_enter Try.func7, Try.ntmps7
  go_wp2_with (first
    | (go_at_call 11; rw [← hW]; clear hW; refine (HM.out).mono ?_; rintro e w1 ⟨rfl, hx1⟩; replace k0 := hx1.cell k0; replace k1 := hx1.cell k1; replace k2 := hx1.cell k2; replace k3 := hx1.cell k3; replace k4 := hx1.cell k4)
    | (go_at_call 17; refine (HTC.out _ hx1).mono ?_; rintro e w2 ⟨rfl, hx2⟩; replace k1 := hx2.cell k1; replace k2 := hx2.cell k2; replace k3 := hx2.cell k3; replace k4 := hx2.cell k4; have hA := ext_alloc w2 (.map #[] 0); have hE0 := env_new w2; replace k1 := hA.cell k1; replace k2 := hA.cell k2; replace k3 := hA.cell k3; replace k4 := hA.cell k4)
    | (go_at_call 18; refine (HVS.out _ ((hx1.trans hx2).trans hA)).mono ?_; rintro e w3 ⟨⟨ja, jc, rfl, hjc, hJ⟩, hx3⟩; replace k1 := hx3.cell k1; replace k2 := hx3.cell k2; replace k3 := hx3.cell k3; replace k4 := hx3.cell k4; replace hE0 := hE0.ext hx3))
  have hxx : Ext w w3 := hx.trans ((hx1.trans hx2).trans (hA.trans hx3))
  have hmw : w.heap.size + 3 ≤ w2.heap.size := by have h1 := hx1.size; have h2 := hx2.size; have h3 := HWs.out; omega
  generalize w2.heap.size = mb at *
  clear HM HTC HVS hmm hx1 hx2 hA
  have hb1 : w.heap.size + 1 ≠ mb := by omega
  have hb2 : w.heap.size + 1 + 1 ≠ mb := by omega
  go_loopw [27] (fun i wr => ∃ k : Nat, k ≤ J.length ∧ i = .int .i64 k ∧ (J.take k).all (valOk s vals) = true ∧ EnvMap wr mb k (valEnv (J.take k) vals) ∧ Chg [mb] w3 wr) (fun i _ => J.length - (intOf i).toNat)
  case atStart => exact ⟨0, Nat.zero_le _, rfl, rfl, hE0, Chg.refl _ _⟩
  case round =>
    obtain ⟨k, hkk, rfl, hall, hE, hch⟩ := hrel
    have Hall := Lib.hid hall; clear hall
    have hxr : Ext w wr := Chg.ext hxx hch (by simp; omega)
    replace k1 := hch.cell k1 (by simpa using hb1)
    replace k2 := hch.cell k2 (by simpa using hb1)
    replace k3 := hch.cell k3 (by simpa using hb2)
    replace k4 := hch.cell k4 (by simpa using hb2)
    by_cases hlt : k < J.length
    · have hlt' : (k : Int) < (J.length : Int) := by omega
      obtain ⟨-, -, jb, jo, rfl, g1⟩ := hJ k hlt
      have hjne : jb ≠ mb := fun hh => by
        obtain ⟨D, -, ⟨es, cl, hb, -⟩, -⟩ := hE0
        subst hh
        unfold World.cell? at g1
        rw [hb] at g1
        simp at g1
      replace g1 := hch.cell g1 (by simpa using hjne)
      obtain ⟨v0, v1⟩ := hJr _ (List.getElem_mem hlt)
      have HBD := Lib.hid (all_badB (p := valOk s vals) hlt)
      have HGD := Lib.hid (all_stepB (p := valOk s vals) hlt Hall.out)
      obtain ⟨v, hv⟩ : ∃ v : Nat, J[k] = v := ⟨J[k].toNat, by omega⟩
      have HEV := Lib.hid (fun x hx => valEnv_step (vals := vals) (x := x) hlt hv hx)
      rw [hv] at g1 HBD HGD v0 v1
      clear hv
      by_cases hc1 : v < vals.length
      · obtain ⟨-, -, vb, vo, rfl, g2⟩ := (hV.ext hxr) v hc1
        have hd1 : decide ((vals.length : Int) ≤ (v : Int)) = false := decide_eq_false (by omega)
        have hd2 : (v : Int) < (vals.length : Int) := by omega
        have hgd : vals.getD (v : Int).toNat 0 = vals[v] := by simp [List.getD, List.getElem?_eq_getElem hc1]
        have hvo : valOk s vals v = cellOk s vals[v] := by unfold valOk; rw [hgd, decide_eq_true hd2]; rfl
        rw [hvo] at HBD HGD
        have HEX := Lib.hid (HEV.out _ hgd)
        generalize vals[v] = x at g2 HBD HGD HEX
        clear HEV hvo hgd
        by_cases hc2 : x < 0
        · have hd3 : decide (x < 0) = true := decide_eq_true hc2
          have HR := Lib.hid (HN.out (HBD.out (by unfold cellOk; rw [decide_eq_false (by omega)]; rfl)))
          clear HBD HGD HEX hE hc2
          go_wp2_with fail
          go_quiet (fail)
          go_wp2_with fail
          go_ret2
          exact ⟨by rw [HR.out]; rfl, by first | exact hxr | exact hxr.drewN _⟩
        · have hd3 : decide (x < 0) = false := decide_eq_false hc2
          by_cases hc3 : (s : Int) ≤ x
          · have hd4 : decide ((s : Int) ≤ x) = true := decide_eq_true hc3
            have HR := Lib.hid (HN.out (HBD.out (by unfold cellOk; rw [decide_eq_false (show ¬ x < (s : Int) by omega), Bool.and_false])))
            clear HBD HGD HEX hE hc2 hc3
            go_wp2_with fail
            go_quiet (fail)
            go_wp2_with fail
            go_ret2
            exact ⟨by rw [HR.out]; rfl, by first | exact hxr | exact hxr.drewN _⟩
          · have hd4 : decide ((s : Int) ≤ x) = false := decide_eq_false hc3
            have HG2 := Lib.hid (HGD.out (by unfold cellOk; rw [decide_eq_true (show x < (s : Int) by omega), decide_eq_true (show 0 ≤ x by omega)]; rfl))
            have hwk : IntKind.i64.wrap (-1 - (v : Int)) = -1 - (v : Int) := IntWalk.i64_in _ (by omega)
            have HKY := Lib.hid (key_int (k := -1 - (v : Int)) (by omega) (by omega))
            have hwf := WalkArith.wf_i64 (n := x) (by omega)
            clear HBD HGD
            go_wp2_with fail
            go_quiet (fail)
            obtain ⟨V, hVd⟩ : ∃ V, V = wr.drewN nq := ⟨_, rfl⟩
            have hxV : Ext wr V := by rw [hVd]; exact Ext.drewN (Below.refl _ _) nq
            rw [← hVd]
            clear hVd
            replace g1 := hxV.cell g1
            replace g2 := hxV.cell g2
            replace k1 := hxV.cell k1
            obtain ⟨D, hD, hown, hat⟩ := hE.ext hxV
            have HAT := Lib.hid hat
            clear hat hE hc2 hc3
            go_wp2_with (at_mapUpdate; refine wpList_mapUpdate_own _ rfl _ _ _ 54 rfl 3 3 intKeyed Try.underlying54 (plainElem Try.prog 3) mb k D rfl hown (by unfold maxLen; omega) _ _ (.int .i64 (-1 - (v : Int))) rfl rfl HKY.out (.lit (.int .i64 x)) [] (plainElem_int Try.underlying3 hwf) ?_; intro w5 hown5 hgrow5)
            go_roundw
            case rel =>
              refine ⟨k + 1, by omega, by go_num, HG2.out, ?_, (hch.trans (Chg.of_ext hxV)).trans (Chg.of_grown hgrow5 (fun g hg => by injection hg with hg; subst hg; simp))⟩
              rw [HEX.out]
              exact env_put hD HAT.out hown5
            case measure => simp [intOf]; omega
      · have hd1 : decide ((vals.length : Int) ≤ (v : Int)) = true := decide_eq_true (by omega)
        have hd5 : decide (vals.length ≤ v) = true := decide_eq_true (by omega)
        have hd6 : vals.length ≤ v := by omega
        have HR := Lib.hid (HN.out (HBD.out (by unfold valOk; rw [decide_eq_false (show ¬ (v : Int) < (vals.length : Int) by omega)]; rfl)))
        clear HBD HGD HEV hE hc1
        go_wp2_with fail
        go_quiet (fail)
        go_wp2_with fail
        go_ret2
        exact ⟨by rw [HR.out]; rfl, by first | exact hxr | exact hxr.drewN _⟩
    · have hlt' : ¬ (k : Int) < (J.length : Int) := by omega
      have hke : J.take k = J := List.take_of_length_le (by omega)
      rw [hke] at Hall hE
      have HR := Lib.hid (HO.out Hall.out)
      have HC := Lib.hid (HVAL.out _ (valEnv_range hs1 Hall.out) wr hxr mb k hE)
      clear hke hE
      go_wp2_with (go_at_call 19; refine (HC.out).mono ?_; rintro e w5 ⟨rfl, hx5⟩)
      go_ret2
      exact ⟨by rw [HR.out]; rfl, hxr.trans hx5⟩
end Go.Proofs.Ytapoedcmhdlpfaa
namespace Go.Proofs.Ytapoedcmhdlpfaa
open Go.ChangeShapes Go.WideShapes Go.ChangeAt Go.RowKit
attribute [local go_sem] undef
/-- a row of the call's own holds what variables are -/
def EnvOwn (w : World) (eb : Nat) (env : Int → Int) : Prop := ∀ v : Nat, v < 48 → w.cell? ⟨eb, v, none⟩ = some (.int .i64 (env v)) ∧ w.frozen? ⟨eb, v, none⟩ = false
theorem EnvOwn.row {w : World} {eb : Nat} {env : Int → Int} (h : EnvOwn w eb env) : EnvRow w eb env := fun v hv => (h v hv).1
theorem EnvOwn.ext {w w' : World} {eb : Nat} {env : Int → Int} (h : EnvOwn w eb env) (hx : Ext w w') : EnvOwn w' eb env := fun v hv => ⟨hx.cell (h v hv).1, hx.frozen (h v hv).1 (h v hv).2⟩
theorem EnvOwn.set {w : World} {eb : Nat} {env : Int → Int} (h : EnvOwn w eb env) {v : Nat} (hv : v < 48) (x : Int) : EnvOwn (w.setCell ⟨eb, v, none⟩ (.int .i64 x)) eb (fun y => if y = (v : Int) then x else env y) := fun j hj => by
  by_cases hjv : j = v
  · subst hjv
    exact ⟨by simp only [if_pos]; exact World.cell?_setCell_same _ _ _ (h j hj).1, by rw [World.frozen?_setCell]; exact (h j hj).2⟩
  · refine ⟨?_, by rw [World.frozen?_setCell]; exact (h j hj).2⟩
    rw [World.cell?_setCell_other _ _ _ _ (by simp [])]
    have : ¬ ((j : Int) = (v : Int)) := by omega
    simp only [this, if_false]
    exact (h j hj).1
theorem infoI : (Try.prog.info? 3).map (fun i => (i.zero, i.size, i.bytes)) = some (some (.int .i64 0), 1, 8) := by kernel_rfl
theorem mk48 (w : World) : (Instr.makeSlice 31 (.int .i64 48) (.int .i64 48)).run Try.prog w = .ok (.slice (some ⟨w.heap.size, 0, none⟩) 48 48) (w.alloc (.cells (madeCells #[.int .i64 0] 48) 3)) := by
  obtain ⟨i, hi, hz, hs, hb⟩ : ∃ i, Try.prog.info? 3 = some i ∧ i.zero = some (.int .i64 0) ∧ i.size = 1 ∧ i.bytes = 8 := by
    have h := infoI
    cases h2 : Try.prog.info? 3 with
    | none => rw [h2] at h; cases h
    | some i => rw [h2] at h; simp only [Option.map_some, Option.some.injEq, Prod.mk.injEq] at h; exact ⟨i, rfl, h⟩
  have hr := run_make (P := Try.prog) w 31 3 i _ Try.underlying31 hi hz .i64 .i64 48 48 (by omega) (by omega) (by rw [hb]; omega) (by omega)
  rw [hs, Nat.mul_one] at hr
  exact hr
theorem made_unfrozen (w : World) (c : Array Value) (t : TypeId) (v : Nat) : (w.alloc (.cells c t)).frozen? ⟨w.heap.size, v, none⟩ = false := by go_simp
theorem made_at {z : Value} : ∀ {n v : Nat}, v < n → (madeCells #[z] n)[v]? = some z := by
  intro n v hv
  have hs : v < (madeCells #[z] n).size := by rw [size_madeCells]; simpa using hv
  rw [Array.getElem?_eq_getElem hs]
  simp only [madeCells]
  simp [Nat.mod_one]
theorem EnvOwn.made (w : World) : EnvOwn (w.alloc (.cells (madeCells #[.int .i64 0] 48) 3)) w.heap.size (fun _ => 0) := fun v hv => by
  have ho := heap_alloc_new w (.cells (madeCells #[.int .i64 0] 48) 3)
  have hc := cell_of_row _ w.heap.size v _ _ _ ho
  refine ⟨?_, made_unfrozen _ _ _ _⟩
  rw [hc]
  exact made_at hv
theorem EnvOwn.lt {w : World} {eb : Nat} {env : Int → Int} (h : EnvOwn w eb env) : eb < w.heap.size := cell_lt (h 0 (by omega)).1

set_option maxHeartbeats 8000000 in
set_option maxRecDepth 100000 in
theorem refTerm_any (l : List Sy) (hl : l.length ≤ 1048576) (sz : Int) (tb : List (List Int)) (htl : tb.length ≤ 1048576) (hrl : ∀ r ∈ tb, r.length ≤ 1048576) (t : Tm) (hts : t.size ≤ 1048576) (vals : List Int) (_hvl : vals.length ≤ 1048576)
    (w : World) (a : Option Addr) (n : Nat) (hsy : IsSyms w a l) (ta : Option Addr) (tc : Nat) (hT : IsTabs w ta tb) (x y : Value) (ht : IsTm w x y t) (va : Option Addr) (vc : Nat) (hV : IsInts w va vals) :
    Calls Try.prog 8 #[.agg #[.slice a l.length n], .agg #[.int .i64 sz, .slice ta tb.length tc], .agg #[x, y], .slice va vals.length vc] w fun e w' => e = .returned (.tuple #[.int .i64 (termSays l sz tb t vals).1, .int .i64 (termSays l sz tb t vals).2]) ∧ Ext w w' := by
  obtain ⟨xa, xc, rfl, rfl, -, -, -, -⟩ := ht.form
  obtain ⟨W, hW⟩ : ∃ W, W = ((w.alloc (.cells #[.slice a l.length n] 24)).alloc (.cells #[.int .i64 sz, .slice ta tb.length tc] 27)).alloc (.cells #[.int .i64 t.f, .slice xa t.ks.length xc] 30) := ⟨_, rfl⟩
  have hx : Ext w W := by subst hW; go_grown
  have k0 : W.cell? ⟨w.heap.size, 0, none⟩ = some (.slice a l.length n) := by subst hW; go_simp
  have k1 : W.cell? ⟨w.heap.size + 1, 0, none⟩ = some (.int .i64 sz) := by subst hW; go_simp
  have k2 : W.cell? ⟨w.heap.size + 1, 1, none⟩ = some (.slice ta tb.length tc) := by subst hW; go_simp
  have k3 : W.cell? ⟨w.heap.size + 1 + 1, 0, none⟩ = some (.int .i64 t.f) := by subst hW; go_simp
  have k4 : W.cell? ⟨w.heap.size + 1 + 1, 1, none⟩ = some (.slice xa t.ks.length xc) := by subst hW; go_simp
  have hWs : W.heap.size = w.heap.size + 3 := by subst hW; simp
  have hM := refModCheck_any l hl sz tb htl hrl W a n (hsy.ext hx) ta tc (hT.ext hx)
  have HTC := Lib.hid (fun w' (h : Ext W w') => refTermCheck_any l hl t (by omega) w' a n (hsy.ext (hx.trans h)) _ _ (ht.ext (hx.trans h)))
  have HVS := Lib.hid (fun w' (h : Ext W w') => refVars_any t w' _ _ (ht.ext (hx.trans h)) (by omega))
  have hB := termSays_bad (l := l) (sz := sz) (tb := tb) (t := t) (vals := vals)
  have hN := termSays_none (l := l) (sz := sz) (tb := tb) (t := t) (vals := vals)
  have hO := termSays_ok (l := l) (sz := sz) (tb := tb) (t := t) (vals := vals)
  generalize termSays l sz tb t vals = R at hB hN hO ⊢
  have hcases : modCheck l sz tb = 0 ∨ modCheck l sz tb = 2 := modCases l sz tb
  obtain ⟨Z, hZ⟩ : ∃ Z, Z = modCheck l sz tb := ⟨_, rfl⟩
  rw [← hZ] at hM hcases hB hN hO
  have HM := Lib.hid hM; clear hM
  rcases hcases with rfl | rfl
  case inr =>
    obtain rfl := hB (fun h => by simp at h)
    clear hB hN hO hZ HTC HVS
    go_enter Try.func8, Try.ntmps8
    go_wp2_with ((rw [← hW]; refine (HM.out).mono ?_); rintro e w1 ⟨rfl, hx1⟩)
    go_ret2
    exact ⟨rfl, hx.trans hx1⟩
  obtain ⟨Y, hY⟩ : ∃ Y, Y = termCheck l t := ⟨_, rfl⟩
  rw [← hY] at HTC hB hN hO
  rcases (show Y = 0 ∨ Y = 2 by rw [hY]; exact (by unfold termCheck; split <;> simp)) with rfl | rfl
  case inr =>
    obtain rfl := hB (fun h => by simp at h)
    clear hB hN hO hZ hY HVS
    go_enter Try.func8, Try.ntmps8
    go_wp2_with (first | (go_at_call 12; rw [← hW]; clear hW; refine (HM.out).mono ?_; rintro e w1 ⟨rfl, hx1⟩; have q0 := hx1.cell k0; have q3 := hx1.cell k3; have q4 := hx1.cell k4) | (go_at_call 20; refine (HTC.out _ hx1).mono ?_; rintro e w2 ⟨rfl, hx2⟩))
    go_ret2
    exact ⟨rfl, hx.trans (hx1.trans hx2)⟩
  clear hB
  obtain ⟨hlow, hov⟩ := check_parts hY.symm
  have hmod := hZ.symm
  obtain ⟨hsg, ⟨s, rfl, hs1, hs3⟩, hlen, -, -⟩ := mod_parts hmod
  have hJl : (t.join []).length ≤ 1048576 := by have := join_length t []; simp at this; omega
  have hJr : ∀ v ∈ t.join [], 0 ≤ v ∧ v < 48 := fun v hv => vl_low hlow v ((join_mem t v).1 hv)
  have HVAL := Lib.hid (fun (env : Int → Int) (he : ∀ v, 0 ≤ env v ∧ env v < (s : Int)) w' (h : Ext w w') eb (hE : EnvRow w' eb env) => refValue_any hmod he t true w' ta tc eb _ _ (hT.ext h) hE (ht.ext h) hov hlow)
  have HN := Lib.hid (hN ⟨rfl, rfl⟩)
  have HO := Lib.hid (hO ⟨rfl, rfl⟩)
  clear hN hO hZ hY hlen hsg hmod hlow hov ht hT hsy
  generalize t.join [] = J at *
  have HWs := Lib.hid hWs; clear hWs
  have hmk := mk48
  go_enter Try.func8, Try.ntmps8
  go_wp2_with (first
    | (go_at_call 12; rw [← hW]; clear hW; refine (HM.out).mono ?_; rintro e w1 ⟨rfl, hx1⟩; replace k0 := hx1.cell k0; replace k1 := hx1.cell k1; replace k2 := hx1.cell k2; replace k3 := hx1.cell k3; replace k4 := hx1.cell k4)
    | (go_at_call 20; refine (HTC.out _ hx1).mono ?_; rintro e w2 ⟨rfl, hx2⟩; replace k1 := hx2.cell k1; replace k2 := hx2.cell k2; replace k3 := hx2.cell k3; replace k4 := hx2.cell k4)
    | (go_at_call 21; refine (HVS.out _ (hx1.trans hx2)).mono ?_; rintro e w2b ⟨⟨ja, jc, rfl, hjc, hJ⟩, hx3⟩; replace k1 := hx3.cell k1; replace k2 := hx3.cell k2; replace k3 := hx3.cell k3; replace k4 := hx3.cell k4))
  have hmw : w.heap.size + 3 ≤ w2b.heap.size := by have h1 := hx1.size; have h2 := hx2.size; have h4 := hx3.size; have h3 := HWs.out; omega
  obtain ⟨w3, hw3⟩ : ∃ w3, w3 = w2b.alloc (.cells (madeCells #[.int .i64 0] 48) 3) := ⟨_, rfl⟩
  have hE0 := EnvOwn.made w2b
  have hA := ext_alloc w2b (.cells (madeCells #[.int .i64 0] 48) 3)
  rw [← hw3] at hE0 hA ⊢
  have hJlt : ∀ k (h : k < J.length), ∃ b o, ja = some ⟨b, o, none⟩ ∧ b < w2b.heap.size := fun k h => by
    obtain ⟨-, -, b, o, h1, h2⟩ := hJ k h
    exact ⟨b, o, h1, cell_lt h2⟩
  have HJlt := Lib.hid hJlt; clear hJlt
  replace hJ := hJ.ext hA
  replace k1 := hA.cell k1
  replace k2 := hA.cell k2
  replace k3 := hA.cell k3
  replace k4 := hA.cell k4
  have hxx : Ext w w3 := hx.trans ((hx1.trans hx2).trans (hx3.trans hA))
  clear hw3
  generalize w2b.heap.size = mb at *
  clear HM HTC HVS hmk hx1 hx2 hA hx3
  have hb1 : w.heap.size + 1 ≠ mb := by omega
  have hb2 : w.heap.size + 1 + 1 ≠ mb := by omega
  go_loopw [12] (fun i wr => ∃ k : Nat, k ≤ J.length ∧ i = .int .i64 k ∧ (J.take k).all (valOk s vals) = true ∧ EnvOwn wr mb (valEnv (J.take k) vals) ∧ Chg [mb] w3 wr) (fun i _ => J.length - (intOf i).toNat)
  case atStart => exact ⟨0, Nat.zero_le _, rfl, rfl, hE0, Chg.refl _ _⟩
  case round =>
    obtain ⟨k, hkk, rfl, hall, hE, hch⟩ := hrel
    have Hall := Lib.hid hall; clear hall
    have hxr : Ext w wr := Chg.ext hxx hch (by simp; omega)
    replace k1 := hch.cell k1 (by simpa using hb1)
    replace k2 := hch.cell k2 (by simpa using hb1)
    replace k3 := hch.cell k3 (by simpa using hb2)
    replace k4 := hch.cell k4 (by simpa using hb2)
    by_cases hlt : k < J.length
    · have hlt' : (k : Int) < (J.length : Int) := by omega
      obtain ⟨-, -, jb, jo, rfl, g1⟩ := hJ k hlt
      have hjne : jb ≠ mb := fun hh => by
        obtain ⟨b, o, h1, h2⟩ := HJlt.out k hlt
        injection h1 with h1
        injection h1 with h1
        omega
      replace g1 := hch.cell g1 (by simpa using hjne)
      obtain ⟨v0, v1⟩ := hJr _ (List.getElem_mem hlt)
      have HBD := Lib.hid (all_badB (p := valOk s vals) hlt)
      have HGD := Lib.hid (all_stepB (p := valOk s vals) hlt Hall.out)
      obtain ⟨v, hv⟩ : ∃ v : Nat, J[k] = v := ⟨J[k].toNat, by omega⟩
      have HEV := Lib.hid (fun x hx => valEnv_step (vals := vals) (x := x) hlt hv hx)
      rw [hv] at g1 HBD HGD v0 v1
      clear hv
      by_cases hc1 : v < vals.length
      · obtain ⟨-, -, vb, vo, rfl, g2⟩ := (hV.ext hxr) v hc1
        have hd1 : decide ((vals.length : Int) ≤ (v : Int)) = false := decide_eq_false (by omega)
        have hd2 : (v : Int) < (vals.length : Int) := by omega
        have hd8 : decide (vals.length ≤ v) = false := decide_eq_false (by omega)
        have hgd : vals.getD (v : Int).toNat 0 = vals[v] := by simp [List.getD, List.getElem?_eq_getElem hc1]
        have hvo : valOk s vals v = cellOk s vals[v] := by unfold valOk; rw [hgd, decide_eq_true hd2]; rfl
        rw [hvo] at HBD HGD
        have HEX := Lib.hid (HEV.out _ hgd)
        generalize vals[v] = x at g2 HBD HGD HEX
        clear HEV hvo hgd
        by_cases hc2 : x < 0
        · have hd3 : decide (x < 0) = true := decide_eq_true hc2
          have HR := Lib.hid (HN.out (HBD.out (by unfold cellOk; rw [decide_eq_false (by omega)]; rfl)))
          clear HBD HGD HEX hE hc2
          go_wp2_with fail
          refine wp_region_noPanic ?_
          refine wp_region_X (by kernel_rfl) (by kernel_rfl) (fun _ _ _ _ _ h => h) (XW.out ?_)
          iterate 29 (first | (refine xw_skip (by rfl) ?_; simp only [Act.put, List.setIfInBounds_toArray, List.set_cons_zero, List.set_cons_succ]) | (apply xw_want; (focus rfl); (focus (intro v1 hv; have e0 := hv.cell g1; have e1 := hv.cell g2; have e2 := hv.cell k1; go_simp; first | done | rfl | exact ⟨rfl, Below.refl _ _⟩ | exact Below.refl _ _)); simp only [Act.put, List.setIfInBounds_toArray, List.set_cons_zero, List.set_cons_succ]))
          refine xw_nil fun w9 hE9 => NoPanic.normal ?_
          go_wp2_with fail
          go_ret2
          exact ⟨by rw [HR.out]; rfl, hxr.trans hE9⟩
        · have hd3 : decide (x < 0) = false := decide_eq_false hc2
          by_cases hc3 : (s : Int) ≤ x
          · have hd4 : decide ((s : Int) ≤ x) = true := decide_eq_true hc3
            have HR := Lib.hid (HN.out (HBD.out (by unfold cellOk; rw [decide_eq_false (show ¬ x < (s : Int) by omega), Bool.and_false])))
            clear HBD HGD HEX hE hc2 hc3
            go_wp2_with fail
            refine wp_region_noPanic ?_
            refine wp_region_X (by kernel_rfl) (by kernel_rfl) (fun _ _ _ _ _ h => h) (XW.out ?_)
            iterate 29 (first | (refine xw_skip (by rfl) ?_; simp only [Act.put, List.setIfInBounds_toArray, List.set_cons_zero, List.set_cons_succ]) | (apply xw_want; (focus rfl); (focus (intro v1 hv; have e0 := hv.cell g1; have e1 := hv.cell g2; have e2 := hv.cell k1; go_simp; first | done | rfl | exact ⟨rfl, Below.refl _ _⟩ | exact Below.refl _ _)); simp only [Act.put, List.setIfInBounds_toArray, List.set_cons_zero, List.set_cons_succ]))
            refine xw_nil fun w9 hE9 => NoPanic.normal ?_
            go_wp2_with fail
            go_ret2
            exact ⟨by rw [HR.out]; rfl, hxr.trans hE9⟩
          · have hd4 : decide ((s : Int) ≤ x) = false := decide_eq_false hc3
            have HG2 := Lib.hid (HGD.out (by unfold cellOk; rw [decide_eq_true (show x < (s : Int) by omega), decide_eq_true (show 0 ≤ x by omega)]; rfl))
            have hv48 : v < 48 := by omega
            clear HBD HGD
            go_wp2_with fail
            refine wp_region_noPanic ?_
            refine wp_region_X (by kernel_rfl) (by kernel_rfl) (fun _ _ _ _ _ h => h) (XW.out ?_)
            iterate 29 (first | (refine xw_skip (by rfl) ?_; simp only [Act.put, List.setIfInBounds_toArray, List.set_cons_zero, List.set_cons_succ]) | (apply xw_want; (focus rfl); (focus (intro v1 hv; have e0 := hv.cell g1; have e1 := hv.cell g2; have e2 := hv.cell k1; go_simp; first | done | rfl | exact ⟨rfl, Below.refl _ _⟩ | exact Below.refl _ _)); simp only [Act.put, List.setIfInBounds_toArray, List.set_cons_zero, List.set_cons_succ]))
            refine xw_nil fun w9 hE9 => NoPanic.normal ?_
            obtain ⟨V, rfl⟩ : ∃ V : World, V = w9 := ⟨_, rfl⟩
            have hxV : Ext wr V := hE9
            replace g1 := hxV.cell g1
            replace g2 := hxV.cell g2
            replace k1 := hxV.cell k1
            have hEV := hE.ext hxV
            obtain ⟨m1, m2⟩ := hEV v hv48
            have HEV2 := Lib.hid ((hEV.ext (Ext.drew (Below.refl _ V))).set hv48 x)
            clear hE hc2 hc3 hEV
            go_wp2_with fail
            go_still_tail 13, (by kernel_rfl)
            change wpList _ _ _ _ _ V.drew
            go_wp2
            go_roundw
            case rel =>
              refine ⟨k + 1, by omega, by go_num, HG2.out, ?_, (hch.trans (Chg.of_ext (hxV.trans (Ext.drew (Below.refl _ V))))).setCell (p := ⟨mb, v, none⟩) _ (.inl (by simp))⟩
              rw [HEX.out]
              exact HEV2.out
            case measure => simp [intOf]; omega
      · have hd1 : decide ((vals.length : Int) ≤ (v : Int)) = true := decide_eq_true (by omega)
        have hd5 : decide (vals.length ≤ v) = true := decide_eq_true (by omega)
        have hd6 : vals.length ≤ v := by omega
        have HR := Lib.hid (HN.out (HBD.out (by unfold valOk; rw [decide_eq_false (show ¬ (v : Int) < (vals.length : Int) by omega)]; rfl)))
        clear HBD HGD HEV hE hc1
        go_wp2_with fail
        refine wp_region_noPanic ?_
        refine wp_region_X (by kernel_rfl) (by kernel_rfl) (fun _ _ _ _ _ h => h) (XW.out ?_)
        iterate 29 (first | (refine xw_skip (by rfl) ?_; simp only [Act.put, List.setIfInBounds_toArray, List.set_cons_zero, List.set_cons_succ]) | (apply xw_want; (focus rfl); (focus (intro v1 hv; have e0 := hv.cell g1; have e2 := hv.cell k1; go_simp; first | done | rfl | exact ⟨rfl, Below.refl _ _⟩ | exact Below.refl _ _)); simp only [Act.put, List.setIfInBounds_toArray, List.set_cons_zero, List.set_cons_succ]))
        refine xw_nil fun w9 hE9 => NoPanic.normal ?_
        go_wp2_with fail
        go_ret2
        exact ⟨by rw [HR.out]; rfl, hxr.trans hE9⟩
    · have hlt' : ¬ (k : Int) < (J.length : Int) := by omega
      have hke : J.take k = J := List.take_of_length_le (by omega)
      rw [hke] at Hall hE
      have HR := Lib.hid (HO.out Hall.out)
      have HC := Lib.hid (HVAL.out _ (valEnv_range hs1 Hall.out) wr hxr mb hE.row)
      clear hke hE
      go_wp2_with (go_at_call 22; refine (HC.out).mono ?_; rintro e w5 ⟨rfl, hx5⟩)
      go_ret2
      exact ⟨by rw [HR.out]; rfl, hxr.trans hx5⟩
end Go.Proofs.Ytapoedcmhdlpfaa
namespace Go.Proofs.Ytapoedcmhdlpfaa
open Go.ChangeShapes Go.WideShapes Go.ChangeAt Go.RowKit
/-- a literal whose terms may be over the signature -/
structure Lt.fine (l : List Sy) (x : Lt) : Prop where
  lo : x.l.over l true = true
  ll : x.l.low 48 = true
  ro : x.r.over l true = true
  rl : x.r.low 48 = true
  ls : x.l.size ≤ 300
  rs : x.r.size ≤ 300
theorem check_size {l : List Sy} {t : Tm} (h : termCheck l t = 0) : t.size ≤ 300 := by
  unfold termCheck at h
  split at h
  · rename_i h1
    obtain ⟨-, h2, -⟩ := h1
    unfold Tm.small at h2
    simp only [Bool.and_eq_true, decide_eq_true_eq] at h2
    exact h2.1.1
  · cases h
theorem clause_fine {l : List Sy} {c : List Lt} (h : clauseCheck l c = 0) : c.length ≤ 16 ∧ ∀ x ∈ c, x.fine l := by
  unfold clauseCheck at h
  split at h
  · rename_i h1
    obtain ⟨-, h2, h3⟩ := h1
    refine ⟨h2, fun x hx => ?_⟩
    have := List.all_eq_true.1 h3 x hx
    unfold litOk at this
    simp only [Bool.and_eq_true, decide_eq_true_eq] at this
    obtain ⟨p1, p2⟩ := check_parts this.1
    obtain ⟨p3, p4⟩ := check_parts this.2.1
    exact ⟨p2, p1, p4, p3, check_size this.1, check_size this.2.1⟩
  · cases h
theorem fine_vars {l : List Sy} {x : Lt} (h : x.fine l) : ∀ v, v ∈ x.l.vl ∨ v ∈ x.r.vl → 0 ≤ v ∧ v < 48 := fun v hv => by
  rcases hv with hv | hv
  · exact vl_low h.ll v hv
  · exact vl_low h.rl v hv
theorem strict_len : ∀ (vs : List Int) (a b : Int), vs.Pairwise (· < ·) → (∀ v ∈ vs, a ≤ v ∧ v < b) → (vs.length : Int) ≤ max (b - a) 0
  | [], a, b, _, _ => by simp; omega
  | v :: vs, a, b, hp, h => by
    obtain ⟨h1, h2⟩ := List.pairwise_cons.1 hp
    have h3 := h v List.mem_cons_self
    have := strict_len vs (v + 1) b h2 fun u hu => ⟨by have := h1 u hu; omega, (h u (List.mem_cons_of_mem _ hu)).2⟩
    simp only [List.length_cons]
    omega
theorem clVars_fine {l : List Sy} {c : List Lt} (h : ∀ x ∈ c, x.fine l) : (clVars c).length ≤ 48 ∧ ∀ v ∈ clVars c, 0 ≤ v ∧ v < 48 := by
  obtain ⟨h1, h2⟩ := clVars_spec c
  have h3 : ∀ v ∈ clVars c, 0 ≤ v ∧ v < 48 := fun v hv => by
    obtain ⟨x, hx, hv⟩ := (h2 v).1 hv
    exact fine_vars (h x hx) v hv
  have := strict_len _ 0 48 h1 h3
  exact ⟨by omega, h3⟩
theorem clVars_mid {l : List Sy} {c : List Lt} (h : ∀ x ∈ c, x.fine l) {k : Nat} (hk : k < c.length) : (c[k].l.join (clVars (c.take k))).length ≤ 348 := by
  have h1 := (clVars_fine (l := l) (c := c.take k) fun x hx => h x (List.mem_of_mem_take hx)).1
  have h2 := join_length c[k].l (clVars (c.take k))
  have h3 := (h _ (List.getElem_mem hk)).ls
  omega

set_option maxHeartbeats 4000000 in
set_option maxRecDepth 100000 in
theorem refClVars_any {l : List Sy} (c : List Lt) (hf : ∀ x ∈ c, x.fine l) (hcl : c.length ≤ 1048576) (w : World) (ca : Option Addr) (cn : Nat) (hc : IsLits w ca c) :
    Calls Try.prog 27 #[.slice ca c.length cn] w fun e w' => (∃ a' c', e = .returned (.slice a' (clVars c).length c') ∧ (clVars c).length ≤ c' ∧ IsInts w' a' (clVars c)) ∧ Ext w w' := by
  have HCV := Lib.hid (show ∀ k, k ≤ c.length → (clVars (c.take k)).length ≤ 48 from fun k _ => (clVars_fine (l := l) fun x hx => hf x (List.mem_of_mem_take hx)).1)
  go_enter Try.func27, Try.ntmps27
  go_wp2_with fail
  go_loopw [3, 4] (fun o i wr => ∃ k : Nat, k ≤ c.length ∧ i = .int .i64 k ∧ (∃ a n, o = .slice a (clVars (c.take k)).length n ∧ (clVars (c.take k)).length ≤ n ∧ IsInts wr a (clVars (c.take k))) ∧ Ext w wr) (fun _ i _ => c.length - (intOf i).toNat)
  case atStart => exact ⟨0, Nat.zero_le _, rfl, ⟨none, 0, rfl, Nat.le_refl _, fun i hi => by simp [clVars, clVarsTo] at hi⟩, Below.refl _ _⟩
  case round =>
    obtain ⟨k, hkk, rfl, ⟨a, n, rfl, hn, hI⟩, hext⟩ := hrel
    by_cases hlt : k < c.length
    · have hk1 : (k : Int) < c.length := by omega
      obtain ⟨b, o, la, lc, ra, rc, rfl, h1, h2, h3, h4, h5, hL, hRt⟩ := (hc.ext hext) k hlt
      have hfk := hf _ (List.getElem_mem hlt)
      have HST := Lib.hid (clVars_step hlt)
      have hmid := clVars_mid hf hlt
      have hM48 := HCV.out k hkk
      obtain ⟨M, hM⟩ : ∃ M, M = clVars (c.take k) := ⟨_, rfl⟩
      rw [← hM] at HST hmid hI hn hM48 ⊢
      clear hM
      have HJ1 := Lib.hid (join_any c[k].l M wr a n _ _ hI hn hL (by have := hfk.ls; omega))
      have HJ2 := Lib.hid (fun w' a' n' (h : Ext wr w') (hi : IsInts w' a' (c[k].l.join M)) (hn' : (c[k].l.join M).length ≤ n') => join_any c[k].r (c[k].l.join M) w' a' n' _ _ hi hn' (hRt.ext h) (by have := hfk.rs; omega))
      have HM48 := Lib.hid hM48
      clear hI hn hL hRt hfk hmid hM48
      generalize c[k].l.f = lf at *
      generalize c[k].r.f = rf at *
      generalize c[k].l.ks.length = ll at *
      generalize c[k].r.ks.length = rl at *
      go_wp2_with (first
        | (go_at_call 52; refine (HJ1.out).mono ?_; rintro e w1 ⟨⟨a1, n1, rfl, hn1, hI1⟩, hx1⟩; replace h4 := hx1.cell h4; replace h5 := hx1.cell h5; clear HJ1)
        | (go_at_call 52; refine (HJ2.out _ _ _ hx1 hI1 hn1).mono ?_; rintro e w2 ⟨⟨a2, n2, rfl, hn2, hI2⟩, hx2⟩))
      go_roundw
      case rel => exact ⟨k + 1, by omega, by go_num, ⟨a2, n2, by rw [HST.out], by rw [HST.out]; exact hn2, by rw [HST.out]; exact hI2⟩, hext.trans (hx1.trans hx2)⟩
      case measure => simp [intOf]; omega
    · have hk1 : ¬ (k : Int) < c.length := by omega
      have hke : c.take k = c := List.take_of_length_le (by omega)
      rw [hke] at hn hI ⊢
      clear hke
      have HI := Lib.hid (And.intro hn hI)
      clear hn hI
      go_wp2_with fail
      go_ret
      exact ⟨⟨_, _, rfl, HI.out.1, HI.out.2⟩, by first | exact hext | exact hext.drewN _⟩

attribute [local go_sem] undef
theorem clHolds_step {sz : Int} {tb : List (List Int)} {env : Int → Int} {c : List Lt} {k : Nat} (h : k < c.length) (h1 : clHolds sz tb env (c.take k) = false) (h2 : litHolds sz tb env c[k] = false) : clHolds sz tb env (c.take (k + 1)) = false := by
  unfold clHolds at h1 ⊢
  rw [List.take_succ_eq_append_getElem h, List.any_append, h1]; simpa using h2
theorem clHolds_hit {sz : Int} {tb : List (List Int)} {env : Int → Int} {c : List Lt} {k : Nat} (h : k < c.length) (h2 : litHolds sz tb env c[k] = true) : clHolds sz tb env c = true := by
  unfold clHolds
  rw [List.any_eq_true]
  exact ⟨_, List.getElem_mem h, h2⟩
set_option maxHeartbeats 4000000 in
set_option maxRecDepth 100000 in
theorem refHolds_any {l : List Sy} {s : Nat} {tb : List (List Int)} (hm : modCheck l s tb = 0) {env : Int → Int} (he : ∀ v, 0 ≤ env v ∧ env v < (s : Int)) (c : List Lt) (hf : ∀ x ∈ c, x.fine l) (hcl : c.length ≤ 1048576)
    (w : World) (ta : Option Addr) (tc eb : Nat) (hT : IsTabs w ta tb) (hE : EnvRow w eb env) (ca : Option Addr) (cn : Nat) (hc : IsLits w ca c) :
    Calls Try.prog 60 #[.agg #[.int .i64 s, .slice ta tb.length tc], .slice (some ⟨eb, 0, none⟩) 48 48, .slice ca c.length cn] w fun e w' => e = .returned (.bool (clHolds s tb env c)) ∧ Ext w w' := by
  obtain ⟨W, hW⟩ : ∃ W, W = w.alloc (.cells #[.int .i64 s, .slice ta tb.length tc] 27) := ⟨_, rfl⟩
  have hx : Ext w W := by subst hW; go_grown
  obtain ⟨k0, k1⟩ := cells2 w (.int .i64 s) (.slice ta tb.length tc) 27
  rw [← hW] at k0 k1
  obtain ⟨R, hR⟩ : ∃ R, R = clHolds s tb env c := ⟨_, rfl⟩
  rw [← hR]
  have HR := Lib.hid hR; clear hR
  go_enter Try.func60, Try.ntmps60
  go_wp2_with fail
  rw [← hW]
  clear hW
  go_loopw [7] (fun i wr => ∃ k : Nat, k ≤ c.length ∧ i = .int .i64 k ∧ clHolds s tb env (c.take k) = false ∧ Ext W wr) (fun i _ => c.length - (intOf i).toNat)
  case atStart => exact ⟨0, Nat.zero_le _, rfl, rfl, Below.refl _ _⟩
  case round =>
    obtain ⟨k, hkk, rfl, hno, hext⟩ := hrel
    have HNO := Lib.hid hno; clear hno
    replace k0 := hext.cell k0
    replace k1 := hext.cell k1
    have hxr := hx.trans hext
    by_cases hlt : k < c.length
    · have hk1 : (k : Int) < c.length := by omega
      obtain ⟨b, o, la, lc, ra, rc, rfl, h1, h2, h3, h4, h5, hL, hRt⟩ := (hc.ext hxr) k hlt
      have hfk := hf _ (List.getElem_mem hlt)
      have HV1 := Lib.hid (fun w' (h : Ext wr w') => refValue_any hm he c[k].l true w' ta tc eb _ _ (hT.ext (hxr.trans h)) (hE.ext (hxr.trans h)) (hL.ext h) hfk.lo hfk.ll)
      have HV2 := Lib.hid (fun w' (h : Ext wr w') => refValue_any hm he c[k].r true w' ta tc eb _ _ (hT.ext (hxr.trans h)) (hE.ext (hxr.trans h)) (hRt.ext h) hfk.ro hfk.rl)
      have HST := Lib.hid (clHolds_step (sz := s) (tb := tb) (env := env) hlt HNO.out)
      have HHT := Lib.hid (clHolds_hit (sz := s) (tb := tb) (env := env) hlt)
      have hlh : litHolds s tb env c[k] = ((c[k].l.val s tb env == c[k].r.val s tb env) != c[k].neg) := rfl
      rw [hlh] at HST HHT
      clear hL hRt hfk hlh
      generalize c[k].l.val s tb env = x1 at *
      generalize c[k].r.val s tb env = x2 at *
      generalize c[k].neg = neg at *
      generalize c[k].l.f = lf at *
      generalize c[k].r.f = rf at *
      generalize c[k].l.ks.length = ll at *
      generalize c[k].r.ks.length = rl at *
      cases hq : (x1 == x2) <;> rw [hq] at HST HHT <;> cases neg
      · skip
        have HH := Lib.hid (HST.out rfl)
        clear HST HHT
        go_wp2_with fail
        refine wp_region_noPanic ?_
        refine wp_region_X (by kernel_rfl) (by kernel_rfl) (fun _ _ _ _ _ h => h) (XW.out ?_)
        iterate 23 (first | (refine xw_skip (by rfl) ?_; simp only [Act.put, List.setIfInBounds_toArray, List.set_cons_zero, List.set_cons_succ]) | (apply xw_want; (focus rfl); (focus (intro v1 hv; have e0 := hv.cell k0; have e1 := hv.cell k1; have e2 := hv.cell h1; have e3 := hv.cell h2; have e4 := hv.cell h3; have e5 := hv.cell h4; have e6 := hv.cell h5; go_simp; first | done | rfl | exact ⟨rfl, Below.refl _ _⟩ | exact Below.refl _ _ | (with_reducible exact HV1.out _ hv) | (with_reducible exact HV2.out _ hv))); simp only [Act.put, List.setIfInBounds_toArray, List.set_cons_zero, List.set_cons_succ]))
        refine xw_nil fun w9 hE9 => NoPanic.normal ?_
        go_wp2_with fail
        go_roundw
        case rel => exact ⟨k + 1, by omega, by go_num, HH.out, hext.trans hE9⟩
        case measure => simp [intOf]; omega
      · skip
        have HH := Lib.hid (HHT.out rfl)
        clear HST HHT
        go_wp2_with fail
        refine wp_region_noPanic ?_
        refine wp_region_X (by kernel_rfl) (by kernel_rfl) (fun _ _ _ _ _ h => h) (XW.out ?_)
        iterate 23 (first | (refine xw_skip (by rfl) ?_; simp only [Act.put, List.setIfInBounds_toArray, List.set_cons_zero, List.set_cons_succ]) | (apply xw_want; (focus rfl); (focus (intro v1 hv; have e0 := hv.cell k0; have e1 := hv.cell k1; have e2 := hv.cell h1; have e3 := hv.cell h2; have e4 := hv.cell h3; have e5 := hv.cell h4; have e6 := hv.cell h5; go_simp; first | done | rfl | exact ⟨rfl, Below.refl _ _⟩ | exact Below.refl _ _ | (with_reducible exact HV1.out _ hv) | (with_reducible exact HV2.out _ hv))); simp only [Act.put, List.setIfInBounds_toArray, List.set_cons_zero, List.set_cons_succ]))
        refine xw_nil fun w9 hE9 => NoPanic.normal ?_
        go_wp2_with fail
        go_ret
        exact ⟨ret_bool (by rw [HR.out, HH.out]), hxr.trans hE9⟩
      · skip
        have HH := Lib.hid (HHT.out rfl)
        clear HST HHT
        go_wp2_with fail
        refine wp_region_noPanic ?_
        refine wp_region_X (by kernel_rfl) (by kernel_rfl) (fun _ _ _ _ _ h => h) (XW.out ?_)
        iterate 23 (first | (refine xw_skip (by rfl) ?_; simp only [Act.put, List.setIfInBounds_toArray, List.set_cons_zero, List.set_cons_succ]) | (apply xw_want; (focus rfl); (focus (intro v1 hv; have e0 := hv.cell k0; have e1 := hv.cell k1; have e2 := hv.cell h1; have e3 := hv.cell h2; have e4 := hv.cell h3; have e5 := hv.cell h4; have e6 := hv.cell h5; go_simp; first | done | rfl | exact ⟨rfl, Below.refl _ _⟩ | exact Below.refl _ _ | (with_reducible exact HV1.out _ hv) | (with_reducible exact HV2.out _ hv))); simp only [Act.put, List.setIfInBounds_toArray, List.set_cons_zero, List.set_cons_succ]))
        refine xw_nil fun w9 hE9 => NoPanic.normal ?_
        go_wp2_with fail
        go_ret
        exact ⟨ret_bool (by rw [HR.out, HH.out]), hxr.trans hE9⟩
      · skip
        have HH := Lib.hid (HST.out rfl)
        clear HST HHT
        go_wp2_with fail
        refine wp_region_noPanic ?_
        refine wp_region_X (by kernel_rfl) (by kernel_rfl) (fun _ _ _ _ _ h => h) (XW.out ?_)
        iterate 23 (first | (refine xw_skip (by rfl) ?_; simp only [Act.put, List.setIfInBounds_toArray, List.set_cons_zero, List.set_cons_succ]) | (apply xw_want; (focus rfl); (focus (intro v1 hv; have e0 := hv.cell k0; have e1 := hv.cell k1; have e2 := hv.cell h1; have e3 := hv.cell h2; have e4 := hv.cell h3; have e5 := hv.cell h4; have e6 := hv.cell h5; go_simp; first | done | rfl | exact ⟨rfl, Below.refl _ _⟩ | exact Below.refl _ _ | (with_reducible exact HV1.out _ hv) | (with_reducible exact HV2.out _ hv))); simp only [Act.put, List.setIfInBounds_toArray, List.set_cons_zero, List.set_cons_succ]))
        refine xw_nil fun w9 hE9 => NoPanic.normal ?_
        go_wp2_with fail
        go_roundw
        case rel => exact ⟨k + 1, by omega, by go_num, HH.out, hext.trans hE9⟩
        case measure => simp [intOf]; omega
    · have hk1 : ¬ (k : Int) < c.length := by omega
      have hke : c.take k = c := List.take_of_length_le (by omega)
      have HH := Lib.hid (show clHolds s tb env c = false by have := HNO.out; rwa [hke] at this)
      clear hke HNO
      go_wp2_with fail
      go_ret
      exact ⟨ret_bool (by rw [HR.out, HH.out]), by first | exact hxr | exact hxr.drewN _⟩
end Go.Proofs.Ytapoedcmhdlpfaa
namespace Go.Proofs.Ytapoedcmhdlpfaa
open Go.ChangeShapes Go.WideShapes Go.ChangeAt Go.RowKit
theorem markL_at {j : Nat} (hj : j < 48) : ∀ (vs : List Int) (L : List Bool), L.length = 48 → (∀ v ∈ vs, 0 ≤ v ∧ v < 48) → (markL L vs).getD j false = (L.getD j false || decide ((j : Int) ∈ vs))
  | [], L, _, _ => by simp [markL]
  | v :: vs, L, hL, h => by
    show (markL (L.set v.toNat true) vs).getD j false = _
    rw [markL_at hj vs _ (by rw [List.length_set]; exact hL) fun u hu => h u (List.mem_cons_of_mem _ hu)]
    have hv := h v List.mem_cons_self
    by_cases he : (j : Int) = v
    · have hn : v.toNat = j := by omega
      rw [hn]
      simp [List.getD, List.getElem?_set_self (show j < L.length by omega), he]
    · have hn : v.toNat ≠ j := by omega
      simp [List.getD, List.getElem?_set_ne hn, he]
theorem repl_getD (n j : Nat) : (List.replicate n false).getD j false = false := by
  show ((List.replicate n false)[j]?).getD false = false
  rw [List.getElem?_replicate]; split <;> rfl
def allVs (c : List Lt) : List Int := c.flatMap fun x => x.l.vl ++ x.r.vl
theorem allVs_step {c : List Lt} {k : Nat} (h : k < c.length) : allVs (c.take (k + 1)) = (allVs (c.take k) ++ c[k].l.vl) ++ c[k].r.vl := by
  unfold allVs
  rw [List.take_succ_eq_append_getElem h, List.flatMap_append]; simp
theorem allVs_mem {c : List Lt} (v : Int) : v ∈ allVs c ↔ ∃ x ∈ c, v ∈ x.l.vl ∨ v ∈ x.r.vl := by unfold allVs; simp
/-- the places that are marked -/
def idxT (L : List Bool) (i : Nat) : List Int := ((List.range i).filter fun (j : Nat) => L.getD j false).map fun (j : Nat) => (j : Int)
theorem idxT_step (L : List Bool) (i : Nat) : idxT L (i + 1) = if L.getD i false = true then idxT L i ++ [(i : Int)] else idxT L i := by
  unfold idxT
  rw [List.range_succ, List.filter_append, List.map_append]
  have e : [i].filter (fun (j : Nat) => L.getD j false) = if L.getD i false = true then [i] else [] := by rw [List.filter_cons, List.filter_nil]
  rw [e]
  by_cases h : L.getD i false = true
  · rw [if_pos h, if_pos h]; rfl
  · rw [if_neg h, if_neg h]; simp
theorem idxT_length (L : List Bool) (i : Nat) : (idxT L i).length ≤ i := by
  unfold idxT
  rw [List.length_map]
  exact Nat.le_trans (List.length_filter_le _ _) (by simp)
theorem idxT_sorted (L : List Bool) : ∀ i, (idxT L i).Pairwise (· < ·)
  | 0 => by simp [idxT]
  | i + 1 => by
    rw [idxT_step]
    split
    · rw [List.pairwise_append]
      refine ⟨idxT_sorted L i, by simp, fun a ha b hb => ?_⟩
      unfold idxT at ha
      obtain ⟨j, hj, rfl⟩ := List.mem_map.1 ha
      have := List.mem_range.1 (List.mem_filter.1 hj).1
      simp at hb
      omega
    · exact idxT_sorted L i
theorem idxT_vars {l : List Sy} {c : List Lt} (hf : ∀ x ∈ c, x.fine l) : idxT (markL (List.replicate 48 false) (allVs c)) 48 = clVars c := by
  obtain ⟨h1, h2⟩ := clVars_spec c
  have hr : ∀ v ∈ allVs c, 0 ≤ v ∧ v < 48 := fun v hv => by
    obtain ⟨x, hx, hv⟩ := (allVs_mem v).1 hv
    exact fine_vars (hf x hx) v hv
  refine strict_ext _ _ (idxT_sorted _ _) h1 fun v => ?_
  rw [h2]
  unfold idxT
  constructor
  · intro h
    obtain ⟨j, hj, rfl⟩ := List.mem_map.1 h
    obtain ⟨h3, h4⟩ := List.mem_filter.1 hj
    have h5 := List.mem_range.1 h3
    rw [markL_at h5 _ _ (by simp) hr] at h4
    rw [repl_getD, Bool.false_or, decide_eq_true_eq] at h4
    exact (allVs_mem _).1 h4
  · intro h
    have h3 := (allVs_mem v).2 h
    have h4 := hr v h3
    have hvn : v.toNat < 48 := by omega
    refine List.mem_map.2 ⟨v.toNat, List.mem_filter.2 ⟨List.mem_range.2 hvn, ?_⟩, by omega⟩
    rw [markL_at hvn _ _ (by simp) hr]
    have : ((v.toNat : Nat) : Int) = v := by omega
    rw [this, decide_eq_true h3, Bool.or_true]
theorem digs_at (s : Nat) : ∀ (n k i : Nat), i < n → (digs s n k)[i]? = some (k / s ^ i % s)
  | 0, _, i, h => by omega
  | n + 1, k, 0, _ => by simp [digs]
  | n + 1, k, i + 1, h => by
    rw [digs, List.getElem?_cons_succ, digs_at s n _ i (by omega), Nat.div_div_eq_div_mul, Nat.pow_succ, Nat.mul_comm s]
mutual
theorem IsTm.at {w : World} : ∀ {t : Tm} {x s : Value}, IsTm w x s t → AtTm (fun b => b < w.heap.size) w x s t
  | .mk n ks, x, s, ht => by
    simp only [IsTm] at ht; simp only [AtTm]
    obtain ⟨h1, h2, h3, a, c, h4, h6, h5⟩ := ht
    exact ⟨h1, h2, h3, a, c, h4, h6, IsTms.atAll h5⟩
theorem IsTms.atAll {w : World} : ∀ {ts : List Tm} {a : Option Addr}, IsTms w a ts → AtTms (fun b => b < w.heap.size) w a ts
  | [], a, _ => by simp only [AtTms]
  | t :: ts, a, ht => by
    simp only [IsTms] at ht; simp only [AtTms]
    obtain ⟨b, o, x, s, h1, h2, h3, h4, h5⟩ := ht
    exact ⟨b, o, x, s, h1, cell_lt h2, h2, h3, IsTm.at h4, IsTms.atAll h5⟩
end
theorem infoB : (Try.prog.info? 4).map (fun i => (i.zero, i.size, i.bytes)) = some (some (.bool false), 1, 1) := by kernel_rfl
theorem mkb48 (w : World) : (Instr.makeSlice 91 (.int .i64 48) (.int .i64 48)).run Try.prog w = .ok (.slice (some ⟨w.heap.size, 0, none⟩) 48 48) (w.alloc (.cells (madeCells #[.bool false] 48) 4)) := by
  obtain ⟨i, hi, hz, hs, hb⟩ : ∃ i, Try.prog.info? 4 = some i ∧ i.zero = some (.bool false) ∧ i.size = 1 ∧ i.bytes = 1 := by
    have h := infoB
    cases h2 : Try.prog.info? 4 with
    | none => rw [h2] at h; cases h
    | some i => rw [h2] at h; simp only [Option.map_some, Option.some.injEq, Prod.mk.injEq] at h; exact ⟨i, rfl, h⟩
  have hr := run_make (P := Try.prog) w 91 4 i _ Try.underlying91 hi hz .i64 .i64 48 48 (by omega) (by omega) (by rw [hb]; omega) (by omega)
  rw [hs, Nat.mul_one] at hr
  exact hr
theorem Own.madeB (w : World) : Own (w.alloc (.cells (madeCells #[.bool false] 48) 4)) w.heap.size ((List.replicate 48 false).map Value.bool) := fun i v hv => by
  have hi : i < 48 := by
    rcases Nat.lt_or_ge i 48 with h | h
    · exact h
    · rw [List.getElem?_eq_none (by simp; omega)] at hv; cases hv
  have ho := heap_alloc_new w (.cells (madeCells #[.bool false] 48) 4)
  have hc := cell_of_row _ w.heap.size i _ _ _ ho
  refine ⟨?_, made_unfrozen _ _ _ _⟩
  rw [hc, made_at hi]
  rw [List.getElem?_map, List.getElem?_replicate, if_pos hi] at hv
  exact hv
theorem range_all_step {p : Nat → Bool} {k : Nat} (h : (List.range k).all p = true) (h2 : p k = true) : (List.range (k + 1)).all p = true := by
  rw [List.range_succ, List.all_append, h]; simpa using h2
theorem range_all_bad {p : Nat → Bool} {k n : Nat} (hk : k < n) (h : p k = false) : (List.range n).all p = false := by
  cases hr : (List.range n).all p with
  | false => rfl
  | true => rw [List.all_eq_true] at hr; rw [hr k (List.mem_range.2 hk)] at h; cases h
theorem pow_at {s k i : Nat} : k / s ^ (i + 1) = k / s ^ i / s := by rw [Nat.div_div_eq_div_mul, Nat.pow_succ]

set_option maxHeartbeats 8000000 in
set_option maxRecDepth 100000 in
theorem refAll_any {l : List Sy} {s : Nat} {tb : List (List Int)} (hm : modCheck l s tb = 0) (c : List Lt) (hf : ∀ x ∈ c, x.fine l) (hcl : c.length ≤ 1048576) (h8 : (clVars c).length ≤ 8)
    (w : World) (ta : Option Addr) (tc : Nat) (hT : IsTabs w ta tb) (ca : Option Addr) (cn : Nat) (hc : IsLits w ca c) :
    Calls Try.prog 28 #[.agg #[.int .i64 s, .slice ta tb.length tc], .slice ca c.length cn] w fun e w' => e = .returned (.bool (clTrue s tb c)) ∧ Ext w w' := by
  obtain ⟨-, ⟨s', hs', hs1, hs3⟩, -, -, -⟩ := mod_parts hm
  obtain rfl : s = s' := by omega
  clear hs'
  obtain ⟨W0, hW0⟩ : ∃ W, W = w.alloc (.cells #[.int .i64 s, .slice ta tb.length tc] 27) := ⟨_, rfl⟩
  have hx0 : Ext w W0 := by subst hW0; go_grown
  obtain ⟨k0, k1⟩ := cells2 w (.int .i64 s) (.slice ta tb.length tc) 27
  rw [← hW0] at k0 k1
  have hs0 : W0.heap.size = w.heap.size + 1 := by subst hW0; simp
  obtain ⟨W, hW⟩ : ∃ W, W = W0.alloc (.cells (madeCells #[.bool false] 48) 4) := ⟨_, rfl⟩
  have hx1 : Ext W0 W := by subst hW; go_grown
  have hO0 := Own.madeB W0
  rw [← hW] at hO0
  rw [hs0] at hO0
  replace k0 := hx1.cell k0
  replace k1 := hx1.cell k1
  have hx := hx0.trans hx1
  have hVR := clVars_fine hf
  have HTR := Lib.hid (show clTrue s tb c = (List.range (s ^ (clVars c).length)).all fun k => clHolds s tb (told (clVars c) (digs s (clVars c).length k) zeroEnv) c from rfl)
  have HIX := Lib.hid (idxT_vars hf)
  have HAV := Lib.hid (fun k (h : k < c.length) => allVs_step h)
  have HH := Lib.hid (fun (env : Int → Int) (he : ∀ v, 0 ≤ env v ∧ env v < (s : Int)) w' (h : Ext w w') eb (hE : EnvRow w' eb env) => refHolds_any hm he c hf hcl w' ta tc eb (hT.ext h) hE ca cn (hc.ext h))
  obtain ⟨R, hR⟩ : ∃ R, R = clTrue s tb c := ⟨_, rfl⟩
  rw [← hR] at HTR ⊢
  generalize clVars c = V at *
  have hPW := fun w' => power_any s V.length hs1 hs3 h8 w'
  have hpw : s ^ V.length ≤ 6561 := by have := pow_mul_le hs1 hs3 (k := V.length) h8; omega
  obtain ⟨A, hA0⟩ : ∃ A, A = s ^ V.length := ⟨_, rfl⟩
  rw [← hA0] at hPW HTR hpw
  have HPW := Lib.hid hPW
  have HPW6 := Lib.hid hpw
  clear hA0 hPW
  have hmb := mkb48
  have hmi := mk48
  obtain ⟨i0, hi0, hz0, hz1, hz2⟩ := info_parts infoInt
  clear hm hR
  go_enter Try.func28, Try.ntmps28
  go_wp2_with fail
  rw [← hW0, ← hW]
  have hsW : w.heap.size + 1 < W.heap.size := by rw [hW]; simp; omega
  clear hW0 hW hx1 hx0 hs0
  have hibne : w.heap.size ≠ w.heap.size + 1 := by omega
  generalize hibd : w.heap.size + 1 = ib at *
  go_loopw [6] (fun i wr => ∃ k : Nat, k ≤ c.length ∧ i = .int .i64 k ∧ Own wr ib ((markL (List.replicate 48 false) (allVs (c.take k))).map Value.bool) ∧ Chg [ib] W wr) (fun i _ => c.length - (intOf i).toNat)
  case atStart => exact ⟨0, Nat.zero_le _, rfl, by simpa [allVs, markL] using hO0, Chg.refl _ _⟩
  case round =>
    obtain ⟨k, hkk, rfl, hO, hch⟩ := hrel
    replace k0 := hch.cell k0 (by simpa using hibne)
    replace k1 := hch.cell k1 (by simpa using hibne)
    have hxr : Ext w wr := Chg.ext hx hch (by simp; omega)
    by_cases hlt : k < c.length
    · have hk1 : (k : Int) < c.length := by omega
      obtain ⟨b, o, la, lc, ra, rc, rfl, h1, h2, h3, h4, h5, hL, hRt⟩ := hc k hlt
      have hbl := cell_lt h1
      simp only at hbl
      have hfk := hf _ (List.getElem_mem hlt)
      have HST := Lib.hid (HAV.out k hlt)
      have hat : ∀ {t : Tm} {x y : Value}, IsTm w x y t → ∀ w', Chg [ib] wr w' → AtTm (fun b => b ≠ ib) w' x y t := fun ht w' hw' =>
        (ht.at.ext hxr).of_cells (fun b hb _ => by omega) (fun p v hp hv => hw'.cell hv (by simp; omega))
      have HM1 := Lib.hid (fun L (hL48 : L.length = 48) (hO' : Own wr ib (L.map Value.bool)) => refMarks_any c[k].l wr ib L _ _ hL48 hO' (hat hL wr (Chg.refl _ _)) hfk.ll (by have := hfk.ls; omega))
      have HM2 := Lib.hid (fun w' (hw' : Chg [ib] wr w') L (hL48 : L.length = 48) (hO' : Own w' ib (L.map Value.bool)) => refMarks_any c[k].r w' ib L _ _ hL48 hO' (hat hRt w' hw') hfk.rl (by have := hfk.rs; omega))
      have g1 := hxr.cell h2
      have g2 := hxr.cell h3
      have g3 := hxr.cell h4
      have g4 := hxr.cell h5
      have hb2 : b ≠ ib := by omega
      have HA := Lib.hid (HM1.out _ (by rw [markL_length]; simp) hO)
      have hml : (markL (List.replicate 48 false) (allVs (c.take k))).length = 48 := by rw [markL_length]; simp
      generalize hMd : markL (List.replicate 48 false) (allVs (c.take k)) = M at *
      have HMD := Lib.hid hMd
      clear hMd hL hRt hfk hat HM1 hO h1 h2 h3 h4 h5
      generalize c[k].l.f = lf at *
      generalize c[k].r.f = rf at *
      generalize c[k].l.ks.length = ll at *
      generalize c[k].r.ks.length = rl at *
      go_wp2_with (first
        | (go_at_call 58; refine (HA.out).mono ?_; rintro e w1 ⟨rfl, ho1, hc1⟩; replace g3 := hc1.cell g3 (by simpa using hb2); replace g4 := hc1.cell g4 (by simpa using hb2); clear HA)
        | (go_at_call 58; refine (HM2.out _ hc1 _ (by rw [markL_length]; exact hml) ho1).mono ?_; rintro e w2 ⟨rfl, ho2, hc2⟩))
      go_roundw
      case rel => exact ⟨k + 1, by omega, by go_num, by rw [HST.out, markL_append, markL_append, HMD.out]; exact ho2, hch.trans (hc1.trans hc2)⟩
      case measure => simp [intOf]; omega
    · have hk1 : ¬ (k : Int) < c.length := by omega
      have hke : c.take k = c := List.take_of_length_le (by omega)
      rw [hke] at hO
      obtain ⟨L, hLd⟩ : ∃ L, L = markL (List.replicate 48 false) (allVs c) := ⟨_, rfl⟩
      have hL48 : L.length = 48 := by rw [hLd, markL_length]; simp
      rw [← hLd] at hO
      have HIX2 := Lib.hid (show idxT L 48 = V by rw [hLd]; exact HIX.out)
      clear hke hLd hch HAV hO0 HIX
      go_wp2_with fail
      obtain ⟨wo, rfl⟩ : ∃ wo : World, wo = wr := ⟨_, rfl⟩
      go_loopw [7, 8] (fun o i wr => ∃ k : Nat, k ≤ 48 ∧ i = .int .i64 k ∧ GRow eltInt 3 wo.heap.size wr o (idxT L k) ∧ Ext wo wr) (fun _ i _ => 48 - (intOf i).toNat)
      case atStart => exact ⟨0, Nat.zero_le _, rfl, GRow.nil, Below.refl _ _⟩
      case round =>
        obtain ⟨j, hjj, rfl, hrow, hext⟩ := hrel
        replace k0 := hext.cell k0
        replace k1 := hext.cell k1
        have hO2 := hO.ext hext
        by_cases hltj : j < 48
        · have hj1 : (j : Int) < 48 := by omega
          obtain ⟨c1, -⟩ := hO2 j (.bool (L.getD j false)) (by rw [List.getElem?_map]; simp [List.getD, List.getElem?_eq_getElem (show j < L.length by omega)])
          have HST := Lib.hid (idxT_step L j)
          have hil := idxT_length L j
          obtain ⟨M, hM⟩ : ∃ M, M = idxT L j := ⟨_, rfl⟩
          rw [← hM] at hrow HST hil
          have HML := Lib.hid hil
          clear hM hil hO2
          obtain ⟨ao, co, rfl, hmc⟩ := hrow.form
          generalize hbd : L.getD j false = bt at *
          have HBD := Lib.hid hbd
          clear hbd
          cases bt with
          | false =>
            go_wp2_with fail
            go_roundw
            case rel => exact ⟨j + 1, by omega, by go_num, by rw [HST.out, if_neg (by simp)]; exact hrow.ext (by first | exact Below.refl _ _ | exact Ext.drewN (Below.refl _ _) _), by first | exact hext | exact hext.drewN _⟩
            case measure => simp [intOf]; omega
          | true =>
            go_wp2_with (at_builtin; refine wpList_append_row rfl _ _ _ rfl 3 i0 _ 8 Try.underlying31 hi0 hz0 hz1 hz2 rfl (by decide) wo.heap.size (.slice ao M.length co) M rfl wr hrow (ext_alloc _ _) wr.heap.size rfl _ _ (heap_alloc_new _ _) (j : Int) ⟨rfl, by omega, by omega⟩ (by have := HML.out; simp only [maxLen]; omega) (by have := HML.out; omega) (by have := hext.size; simp; omega) ?_; intro g2 cap2 w2 hrow2 hgrow2 hat2 hlt2; have hx2 := Ext.append hext hrow (ext_alloc _ _) hgrow2)
            go_roundw
            case rel => exact ⟨j + 1, by omega, by go_num, by rw [HST.out, if_pos rfl]; exact hrow2, hx2⟩
            case measure => simp [intOf]; omega
        · have hj1 : ¬ (j : Int) < 48 := by omega
          obtain rfl : j = 48 := by omega
          rw [HIX2.out] at hrow
          obtain ⟨va, vn, rfl, hvn, hat⟩ := hrow.ints
          have hVI := hat.isInts
          have hVI0 := hVI
          have hxw : Ext w wr := hxr.trans hext
          clear hrow hat hO hO2 hext HIX2
          have hA := ext_alloc wr (.cells (madeCells #[.int .i64 0] 48) 3)
          have q0 := hA.cell k0
          have q1 := hA.cell k1
          have hE0 := EnvOwn.made wr
          have hgt : w.heap.size < wr.heap.size := cell_lt k0
          go_wp2_with (first
            | (go_at_call 59; refine (HPW.out _).mono ?_; rintro e w5 ⟨rfl, hx5⟩))
          replace q0 := hx5.cell q0
          replace q1 := hx5.cell q1
          replace hE0 := hE0.ext hx5
          replace hVI := (hVI.ext hA).ext hx5
          have hxw5 : Ext w w5 := hxw.trans (hA.trans hx5)
          have hVlt : ∀ i (h : i < V.length), ∃ b o, va = some ⟨b, o, none⟩ ∧ b ≠ wr.heap.size := fun i h => by
            obtain ⟨-, -, b, o, h1, h2⟩ := hVI0 i h
            have := cell_lt h2
            simp only at this
            exact ⟨b, o, h1, by omega⟩
          have HVlt := Lib.hid hVlt
          clear hVlt hVI0 hA hx5 k0 k1
          have hebw : w.heap.size ≠ wr.heap.size := by omega
          have hebg : w.heap.size ≤ wr.heap.size := by omega
          generalize wr.heap.size = eb at *
          have hsne : ((s : Nat) : Int) ≠ 0 := by omega
          have hs0 : ¬ ((s : Nat) : Int) = 0 := hsne
          have hV0 : ∀ v, v ∉ V → zeroEnv v = 0 := fun _ _ => rfl
          go_loopw [11] (fun i wr => ∃ k : Nat, k ≤ A ∧ i = .int .i64 k ∧ ((List.range k).all fun k => clHolds s tb (told V (digs s V.length k) zeroEnv) c) = true ∧ (∃ env, EnvOwn wr eb env ∧ (∀ v, v ∉ V → env v = 0) ∧ ∀ v, 0 ≤ env v ∧ env v < (s : Int)) ∧ Chg [eb] w5 wr) (fun i _ => A - (intOf i).toNat)
          case atStart => exact ⟨0, Nat.zero_le _, rfl, rfl, ⟨_, hE0, hV0, fun v => zero_range hs1 v⟩, Chg.refl _ _⟩
          case round =>
            obtain ⟨k3, hk3, rfl, hall, ⟨env, hE, hEz, hEr⟩, hch3⟩ := hrel
            have Hall := Lib.hid hall; clear hall
            replace q0 := hch3.cell q0 (by simpa using hebw)
            replace q1 := hch3.cell q1 (by simpa using hebw)
            by_cases hlt3 : k3 < A
            · have hk31 : (k3 : Int) < (A : Int) := by omega
              have hDl : (digs s V.length k3).length = V.length := digs_length _ _ _
              have HDL := Lib.hid (digs_lt (show 0 < s by omega) V.length k3)
              have HDA := Lib.hid (digs_at s V.length k3)
              have HGD := Lib.hid (range_all_step (p := fun k => clHolds s tb (told V (digs s V.length k) zeroEnv) c) Hall.out)
              have HBD := Lib.hid (range_all_bad (p := fun k => clHolds s tb (told V (digs s V.length k) zeroEnv) c) hlt3)
              generalize digs s V.length k3 = D at *
              have HDl := Lib.hid hDl
              have HEz := Lib.hid (And.intro hEz hEr)
              clear hDl hEz hEr
              go_wp2_with fail
              obtain ⟨wo2, rfl⟩ : ∃ wo2 : World, wo2 = wr := ⟨_, rfl⟩
              go_loopw [12, 13] (fun x i wr => ∃ i' : Nat, i' ≤ V.length ∧ i = .int .i64 i' ∧ x = .int .i64 ((k3 / s ^ i' : Nat) : Int) ∧ EnvOwn wr eb (told (V.take i') D env) ∧ Chg [eb] wo2 wr) (fun _ i _ => V.length - (intOf i).toNat)
              case atStart => exact ⟨0, Nat.zero_le _, rfl, by simp, by have : told (V.take 0) D env = env := funext fun v => told_nil _ _ _; rw [this]; exact hE, Chg.refl _ _⟩
              case round =>
                obtain ⟨i', hi', rfl, rfl, hE4, hch4⟩ := hrel
                replace q0 := hch4.cell q0 (by simpa using hebw)
                replace q1 := hch4.cell q1 (by simpa using hebw)
                by_cases hlt4 : i' < V.length
                · have hi1 : (i' : Int) < (V.length : Int) := by omega
                  obtain ⟨-, -, vb, vo, rfl, g1⟩ := hVI i' hlt4
                  have hvb : vb ≠ eb := by
                    obtain ⟨b, o, h1, h2⟩ := HVlt.out i' hlt4
                    injection h1 with h1
                    injection h1 with h1
                    omega
                  replace g1 := (hch3.trans hch4).cell g1 (by simpa using hvb)
                  obtain ⟨v0, v1⟩ := hVR.2 _ (List.getElem_mem hlt4)
                  have HTS := Lib.hid (told_step (env := env) (row := D) hlt4 (by rw [HDl.out]; exact hlt4))
                  have hDi : D[i']'(by rw [HDl.out]; exact hlt4) = k3 / s ^ i' % s := by
                    have h := HDA.out i' hlt4
                    rw [List.getElem?_eq_getElem (by rw [HDl.out]; exact hlt4)] at h
                    injection h
                  rw [hDi] at HTS
                  obtain ⟨v, hv⟩ : ∃ v : Nat, V[i'] = v := ⟨V[i'].toNat, by omega⟩
                  rw [hv] at g1 HTS v0 v1
                  clear hv hDi
                  have hv48 : v < 48 := by omega
                  obtain ⟨m1, m2⟩ := hE4 v hv48
                  have hPA := pow_at (s := s) (k := k3) (i := i')
                  have HSET := Lib.hid ((hE4.ext (Ext.drew (Below.refl _ wr))).set hv48 ((k3 / s ^ i' % s : Nat) : Int))
                  have HPA := Lib.hid hPA; clear hPA
                  obtain ⟨q, hq⟩ : ∃ q, q = k3 / s ^ i' := ⟨_, rfl⟩
                  have HQ := Lib.hid hq
                  rw [← hq] at HPA HSET HTS ⊢
                  clear hq
                  have htm : Int.tmod ((q : Nat) : Int) ((s : Nat) : Int) = ((q % s : Nat) : Int) := rfl
                  have htd : Int.tdiv ((q : Nat) : Int) ((s : Nat) : Int) = ((q / s : Nat) : Int) := rfl
                  have hs00 : ¬ s = 0 := by omega
                  have hrem : ∀ w, (Op.intDiv .rem .i64 ((q : Nat) : Int) ((s : Nat) : Int)).run Try.prog w = .ok (.int .i64 ((q % s : Nat) : Int)) w := fun w => by
                    unfold Op.intDiv; rw [if_neg hsne]; rfl
                  have hq1 : q ≤ k3 := by rw [HQ.out]; exact Nat.div_le_self _ _
                  have hq2 : q ≤ 6561 := by have := HPW6.out; omega
                  have hqs := Nat.div_le_self q s
                  have HWQ := Lib.hid (show wrap64 ((q : Int) / (s : Int)) = (q : Int) / (s : Int) by
                    obtain ⟨d, hd⟩ : ∃ d : Nat, d = q / s := ⟨_, rfl⟩
                    have e : (q : Int) / (s : Int) = (d : Int) := by rw [hd]; rfl
                    rw [e]
                    exact IntWalk.wrap64_in _ (by omega))
                  clear hE4
                  go_wp2_with fail
                  go_still_tail 10, (by kernel_rfl)
                  change wpList _ _ _ _ _ (World.drew _)
                  go_wp2
                  go_roundw
                  case rel => exact ⟨i' + 1, by omega, by go_num, by rw [HPA.out]; first | rfl | (simp; exact HWQ.out), by rw [HTS.out]; exact HSET.out, (hch4.trans (Chg.of_ext (Ext.drew (Below.refl _ _)))).setCell (p := ⟨eb, v, none⟩) _ (.inl (by simp))⟩
                  case measure => simp [intOf]; omega
                · have hi1 : ¬ (i' : Int) < (V.length : Int) := by omega
                  have hie : V.take i' = V := List.take_of_length_le (by omega)
                  have hte : told (V.take i') D env = told V D zeroEnv := by rw [hie]; exact told_zero (by rw [HDl.out]; exact Nat.le_refl _) HEz.out.1
                  rw [hte] at hE4
                  have hTr := told_range hs1 V D zeroEnv HDL.out (zero_range hs1)
                  have hTz : ∀ v, v ∉ V → told V D zeroEnv v = 0 := fun v hv => told_out _ _ _ _ hv
                  have hxw4 : Ext w wr := Chg.ext hxw5 (hch3.trans hch4) (by simp; omega)
                  have HC := Lib.hid (HH.out _ hTr wr hxw4 eb hE4.row)
                  have HE4 := Lib.hid (And.intro hE4 (And.intro hTz hTr))
                  clear hie hte hE4 hTr hTz
                  cases hb : clHolds s tb (told V D zeroEnv) c with
                  | true =>
                    rw [hb] at HC
                    have HG := Lib.hid (HGD.out hb)
                    clear hb
                    go_wp2_with (go_at_call 60; refine (HC.out).mono ?_; rintro e w9 ⟨rfl, hx9⟩)
                    go_roundw
                    case rel => exact ⟨k3 + 1, by omega, by go_num, HG.out, ⟨_, HE4.out.1.ext hx9, HE4.out.2.1, HE4.out.2.2⟩, (hch3.trans hch4).trans (Chg.of_ext hx9)⟩
                    case measure => simp [intOf]; omega
                  | false =>
                    rw [hb] at HC
                    have HB := Lib.hid (HBD.out hb)
                    clear hb
                    go_wp2_with (go_at_call 60; refine (HC.out).mono ?_; rintro e w9 ⟨rfl, hx9⟩)
                    go_ret
                    exact ⟨ret_bool (by rw [HTR.out]; exact HB.out.symm), hxw4.trans hx9⟩
            · have hk31 : ¬ (k3 : Int) < (A : Int) := by omega
              obtain rfl : k3 = A := by omega
              have hxw4 : Ext w wr := Chg.ext hxw5 hch3 (by simp; omega)
              have HB := Lib.hid Hall.out
              clear hE
              go_wp2_with fail
              go_ret
              exact ⟨ret_bool (by rw [HTR.out]; exact HB.out.symm), by first | exact hxw4 | exact hxw4.drewN _⟩
end Go.Proofs.Ytapoedcmhdlpfaa
namespace Go.Proofs.Ytapoedcmhdlpfaa
open Go.ChangeShapes Go.WideShapes Go.ChangeAt Go.RowKit
theorem clauseSays_bad {l : List Sy} {sz : Int} {tb : List (List Int)} {c : List Lt} (h : ¬ (modCheck l sz tb = 0 ∧ clauseCheck l c = 0)) : clauseSays l sz tb c = (false, 2) := by unfold clauseSays; rw [if_neg h]
theorem clauseSays_long {l : List Sy} {sz : Int} {tb : List (List Int)} {c : List Lt} (h : modCheck l sz tb = 0 ∧ clauseCheck l c = 0) (h8 : 8 < (clVars c).length) : clauseSays l sz tb c = (false, 3) := by unfold clauseSays; rw [if_pos h, if_pos h8]
theorem clauseSays_ok {l : List Sy} {s : Nat} {tb : List (List Int)} {c : List Lt} (h : modCheck l s tb = 0 ∧ clauseCheck l c = 0) (h8 : ¬ 8 < (clVars c).length) : clauseSays l s tb c = (clTrue s tb c, 0) := by unfold clauseSays; rw [if_pos h, if_neg h8]; rfl
theorem clCases (l : List Sy) (c : List Lt) : clauseCheck l c = 0 ∨ clauseCheck l c = 2 := by unfold clauseCheck; split <;> simp

set_option maxHeartbeats 4000000 in
set_option maxRecDepth 100000 in
theorem refClause_any (l : List Sy) (hl : l.length ≤ 1048576) (sz : Int) (tb : List (List Int)) (htl : tb.length ≤ 1048576) (hrl : ∀ r ∈ tb, r.length ≤ 1048576) (c : List Lt) (hcs : ∀ x ∈ c, x.sized) (hcl : c.length ≤ 1048576)
    (w : World) (a : Option Addr) (n : Nat) (hsy : IsSyms w a l) (ta : Option Addr) (tc : Nat) (hT : IsTabs w ta tb) (ca : Option Addr) (cn : Nat) (hc : IsLits w ca c) :
    Calls Try.prog 10 #[.agg #[.slice a l.length n], .agg #[.int .i64 sz, .slice ta tb.length tc], .slice ca c.length cn] w fun e w' => e = .returned (.tuple #[.bool (clauseSays l sz tb c).1, .int .i64 (clauseSays l sz tb c).2]) ∧ Ext w w' := by
  obtain ⟨W, hW⟩ : ∃ W, W = (w.alloc (.cells #[.slice a l.length n] 24)).alloc (.cells #[.int .i64 sz, .slice ta tb.length tc] 27) := ⟨_, rfl⟩
  have hx : Ext w W := by subst hW; go_grown
  have k0 : W.cell? ⟨w.heap.size, 0, none⟩ = some (.slice a l.length n) := by subst hW; go_simp
  have k1 : W.cell? ⟨w.heap.size + 1, 0, none⟩ = some (.int .i64 sz) := by subst hW; go_simp
  have k2 : W.cell? ⟨w.heap.size + 1, 1, none⟩ = some (.slice ta tb.length tc) := by subst hW; go_simp
  have hM := refModCheck_any l hl sz tb htl hrl W a n (hsy.ext hx) ta tc (hT.ext hx)
  have HCC := Lib.hid (fun w' (h : Ext W w') => refClCheck_any l hl c hcs hcl w' a n (hsy.ext (hx.trans h)) ca cn (hc.ext (hx.trans h)))
  have hB := clauseSays_bad (l := l) (sz := sz) (tb := tb) (c := c)
  obtain ⟨Z, hZ⟩ : ∃ Z, Z = modCheck l sz tb := ⟨_, rfl⟩
  obtain ⟨Y, hY⟩ : ∃ Y, Y = clauseCheck l c := ⟨_, rfl⟩
  rw [← hZ] at hM
  rw [← hY] at HCC
  rw [← hZ, ← hY] at hB
  have HM := Lib.hid hM; clear hM
  rcases (show Z = 0 ∨ Z = 2 by rw [hZ]; exact modCases l sz tb) with rfl | rfl
  case inr =>
    rw [hB (fun h => by simp at h)]
    clear hB hZ hY HCC
    go_enter Try.func10, Try.ntmps10
    go_wp2_with ((rw [← hW]; refine (HM.out).mono ?_); rintro e w1 ⟨rfl, hx1⟩)
    go_ret2
    exact ⟨rfl, hx.trans hx1⟩
  rcases (show Y = 0 ∨ Y = 2 by rw [hY]; exact clCases l c) with rfl | rfl
  case inr =>
    rw [hB (fun h => by simp at h)]
    clear hB hZ hY
    go_enter Try.func10, Try.ntmps10
    go_wp2_with (first
      | (go_at_call 12; rw [← hW]; clear hW; refine (HM.out).mono ?_; rintro e w1 ⟨rfl, hx1⟩; have q0 := hx1.cell k0; have q1 := hx1.cell k1; have q2 := hx1.cell k2)
      | (go_at_call 26; refine (HCC.out _ hx1).mono ?_; rintro e w2 ⟨rfl, hx2⟩))
    go_ret2
    exact ⟨rfl, hx.trans (hx1.trans hx2)⟩
  clear hB
  obtain ⟨h16, hfine⟩ := clause_fine hY.symm
  have hmod := hZ.symm
  obtain ⟨-, ⟨s, rfl, hs1, hs3⟩, -, -, -⟩ := mod_parts hmod
  have HV := Lib.hid (fun w' (h : Ext W w') => refClVars_any c hfine hcl w' ca cn (hc.ext (hx.trans h)))
  have hL := clauseSays_long (l := l) (sz := s) (tb := tb) (c := c) ⟨hmod, hY.symm⟩
  have hO := clauseSays_ok (l := l) (s := s) (tb := tb) (c := c) ⟨hmod, hY.symm⟩
  by_cases h8 : 8 < (clVars c).length
  · rw [hL h8]
    have h8i : decide ((8 : Int) < ((clVars c).length : Int)) = true := decide_eq_true (by omega)
    have h8j : (8 : Int) < ((clVars c).length : Int) := by omega
    clear hL hO hZ hY hfine hmod h16
    generalize (clVars c).length = vl at *
    go_enter Try.func10, Try.ntmps10
    go_wp2_with (first
      | (go_at_call 12; rw [← hW]; clear hW; refine (HM.out).mono ?_; rintro e w1 ⟨rfl, hx1⟩; have q0 := hx1.cell k0; have q1 := hx1.cell k1; have q2 := hx1.cell k2)
      | (go_at_call 26; refine (HCC.out _ hx1).mono ?_; rintro e w2 ⟨rfl, hx2⟩; replace q1 := hx2.cell q1; replace q2 := hx2.cell q2)
      | (go_at_call 27; refine (HV.out _ (hx1.trans hx2)).mono ?_; rintro e w3 ⟨⟨va, vc, rfl, -, -⟩, hx3⟩))
    go_ret2
    exact ⟨rfl, hx.trans (hx1.trans (hx2.trans hx3))⟩
  · rw [hO h8]
    have HT := Lib.hid (fun w' (h : Ext W w') => refAll_any hmod c hfine hcl (by omega) w' ta tc (hT.ext (hx.trans h)) ca cn (hc.ext (hx.trans h)))
    have h8i : decide ((8 : Int) < ((clVars c).length : Int)) = false := decide_eq_false (by omega)
    have h8j : ¬ (8 : Int) < ((clVars c).length : Int) := by omega
    clear hL hO hZ hY hfine hmod h16
    generalize clTrue s tb c = B at *
    generalize (clVars c).length = vl at *
    go_enter Try.func10, Try.ntmps10
    go_wp2_with (first
      | (go_at_call 12; rw [← hW]; clear hW; refine (HM.out).mono ?_; rintro e w1 ⟨rfl, hx1⟩; have q0 := hx1.cell k0; have q1 := hx1.cell k1; have q2 := hx1.cell k2)
      | (go_at_call 26; refine (HCC.out _ hx1).mono ?_; rintro e w2 ⟨rfl, hx2⟩; replace q1 := hx2.cell q1; replace q2 := hx2.cell q2)
      | (go_at_call 27; refine (HV.out _ (hx1.trans hx2)).mono ?_; rintro e w3 ⟨⟨va, vc, rfl, -, -⟩, hx3⟩; replace q1 := hx3.cell q1; replace q2 := hx3.cell q2)
      | (go_at_call 28; refine (HT.out _ (hx1.trans (hx2.trans hx3))).mono ?_; rintro e w4 ⟨rfl, hx4⟩))
    go_ret2
    exact ⟨rfl, hx.trans (hx1.trans (hx2.trans (hx3.trans hx4)))⟩
end Go.Proofs.Ytapoedcmhdlpfaa
