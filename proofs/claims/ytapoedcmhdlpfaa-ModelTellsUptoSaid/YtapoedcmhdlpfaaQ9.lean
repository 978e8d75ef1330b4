/- What Check of the model layer returns. Conditions: at most 1048576 symbols, rows, numbers in a row.
What the reference's Right and Check of the model layer return. Conditions: at most 1048576 symbols, rows, numbers in a row.
What the reference's pred and Check of the clause layer return. -/
import Derived.Test.YtapoedcmhdlpfaaQ7
import Derived.Test.YtapoedcmhdlpfaaQ8
namespace Go.Proofs.Ytapoedcmhdlpfaa
open Go.ChangeShapes Go.WideShapes Go.ChangeAt Go.RowKit
/-- from an address on stand rows of numbers -/
def IsTabs (w : World) (a : Option Addr) (tb : List (List Int)) : Prop :=
  ∀ i (h : i < tb.length), ∃ b o a' c', a = some ⟨b, o, none⟩ ∧ w.cell? ⟨b, o + i, none⟩ = some (.slice a' tb[i].length c') ∧ tb[i].length ≤ c' ∧ IsInts w a' tb[i]
theorem IsTabs.ext {w w' : World} {a : Option Addr} {tb : List (List Int)} (h : IsTabs w a tb) (hx : Ext w w') : IsTabs w' a tb := fun i hi => by
  obtain ⟨b, o, a', c', h1, h2, h3, h4⟩ := h i hi
  exact ⟨b, o, a', c', h1, hx.cell h2, h3, h4.ext hx⟩

def firstI {α : Type} (p : α → Bool) (l : List α) : Int := match l.findIdx? p with | some i => (i : Int) | none => -1
theorem firstI_at {α : Type} {p : α → Bool} {l : List α} {k : Nat} (hk : k < l.length) (h : (l.take k).any p = false) (hp : p l[k] = true) : firstI p l = k := by
  have : l.findIdx? p = some k := by
    rw [List.findIdx?_eq_some_iff_getElem]
    refine ⟨hk, hp, fun j hj => ?_⟩
    have := List.any_eq_false.1 h (l[j]'(by omega)) (by rw [List.mem_iff_getElem]; exact ⟨j, by rw [List.length_take]; omega, by rw [List.getElem_take]⟩)
    simpa using this
  unfold firstI; rw [this]
theorem firstI_none {α : Type} {p : α → Bool} {l : List α} (h : l.any p = false) : firstI p l = -1 := by
  have : l.findIdx? p = none := by
    rw [List.findIdx?_eq_none_iff]
    intro x hx
    have := List.any_eq_false.1 h x hx
    simpa using this
  unfold firstI; rw [this]
theorem firstI_any {α : Type} (p : α → Bool) (l : List α) : decide (0 ≤ firstI p l) = l.any p := by
  cases h : l.any p with
  | false => rw [firstI_none h]; rfl
  | true =>
    unfold firstI
    cases hf : l.findIdx? p with
    | none =>
      rw [List.findIdx?_eq_none_iff] at hf
      obtain ⟨x, hx, hp⟩ := List.any_eq_true.1 h
      rw [hf x hx] at hp; cases hp
    | some i => simp
theorem any_step {α : Type} {p : α → Bool} {l : List α} {k : Nat} (h : k < l.length) : (l.take (k + 1)).any p = ((l.take k).any p || p l[k]) := by
  rw [List.take_succ_eq_append_getElem h, List.any_append]; simp

/-- what a row may not hold -/
def cellBad (top x : Int) : Bool := !(cellOk top x)
theorem any_bad (top : Int) (r : List Int) : r.any (cellBad top) = !(r.all (cellOk top)) := by
  unfold cellBad
  rw [List.all_eq_not_any_not, Bool.not_not]
set_option maxHeartbeats 1000000 in
theorem mCk1_any (x : Int) (s : Sy) (sz : Int) (w : World) (sb wb : Nat) (h0 : w.cell? ⟨sb, 0, none⟩ = some (.string s.name)) (h1 : w.cell? ⟨sb, 1, none⟩ = some (.int .i64 s.arity)) (h2 : w.cell? ⟨sb, 2, none⟩ = some (.bool s.pred)) (hw : w.cell? ⟨wb, 0, none⟩ = some (.int .i64 sz)) :
    Calls Try.prog 32 #[.int .i64 x, .pointer (some ⟨sb, 0, none⟩), .pointer (some ⟨wb, 0, none⟩)] w fun e w' => e = .returned (.bool (cellBad (s.top sz) x)) ∧ Ext w w' := by
  have HV := Lib.hid (fun w => values_any s sz w)
  unfold cellBad cellOk
  generalize s.top sz = top at HV
  generalize s.name = nm at h0 HV
  generalize s.arity = ar at h1 HV
  generalize s.pred = pr at h2 HV
  by_cases hx : x < 0
  · rw [decide_eq_false (show ¬ (0 : Int) ≤ x by omega)]
    go_enter Try.func32, Try.ntmps32
    go_wp2_with fail
    go_ret
    exact ⟨rfl, by first | exact Below.refl _ _ | exact Ext.drewN (Below.refl _ _) _⟩
  · rw [decide_eq_true (show (0 : Int) ≤ x by omega)]
    have e : decide (top ≤ x) = !(true && decide (x < top)) := by
      by_cases h : x < top
      · rw [decide_eq_true h, decide_eq_false (by omega)]; rfl
      · rw [decide_eq_false h, decide_eq_true (by omega)]; rfl
    have He := Lib.hid e; clear e
    go_enter Try.func32, Try.ntmps32
    go_wp2_with (go_at_call 33; refine (HV.out _).mono ?_; rintro e w1 ⟨rfl, hx1⟩)
    go_ret
    exact ⟨ret_bool He.out, by first | exact hx1 | exact Ext.trans (Ext.drewN (Below.refl _ _) _) hx1⟩
set_option maxHeartbeats 2000000 in
theorem idxBad_any (row : List Int) (hl : row.length ≤ 1048576) (s : Sy) (sz : Int) (w : World) (a : Option Addr) (c : Nat) (hi : IsInts w a row) (sb wb : Nat) (h0 : w.cell? ⟨sb, 0, none⟩ = some (.string s.name)) (h1 : w.cell? ⟨sb, 1, none⟩ = some (.int .i64 s.arity)) (h2 : w.cell? ⟨sb, 2, none⟩ = some (.bool s.pred)) (hw : w.cell? ⟨wb, 0, none⟩ = some (.int .i64 sz)) :
    Calls Try.prog 63 #[.slice a row.length c, .func (.func 32) #[] #[.pointer (some ⟨sb, 0, none⟩), .pointer (some ⟨wb, 0, none⟩)]] w fun e w' => e = .returned (.int .i64 (firstI (cellBad (s.top sz)) row)) ∧ Ext w w' := by
  have HC := Lib.hid (fun x w' (h : Ext w w') => mCk1_any x s sz w' sb wb (h.cell h0) (h.cell h1) (h.cell h2) (h.cell hw))
  clear h0 h1 h2 hw
  generalize s.top sz = top at HC
  go_enter Try.func63, Try.ntmps63
  go_wp2_with fail
  go_loopw [8] (fun i wr => ∃ k : Nat, k ≤ row.length ∧ i = .int .i64 k ∧ Ext w wr ∧ (row.take k).any (cellBad top) = false) (fun i _ => row.length - (intOf i).toNat)
  case atStart => exact ⟨0, Nat.zero_le _, rfl, Below.refl _ _, rfl⟩
  case round =>
    obtain ⟨k, hk, rfl, hx, hm⟩ := hrel
    have HM := Lib.hid hm; clear hm
    by_cases hlt : k < row.length
    · obtain ⟨-, -, b, o, rfl, g1⟩ := (hi.ext hx) k hlt
      have hlt' : (k : Int) < (row.length : Int) := by omega
      have HST := Lib.hid (any_step (p := cellBad top) hlt)
      have HE := Lib.hid (HC.out row[k] wr hx)
      cases hp : cellBad top row[k] with
      | false =>
        rw [hp] at HE HST
        clear hp
        go_wp2_with (go_at_call 32; refine (HE.out).mono ?_; rintro e w1 ⟨rfl, hx1⟩)
        go_roundw
        case rel => exact ⟨k + 1, by omega, by go_num, hx.trans hx1, by rw [HST.out, HM.out]; rfl⟩
        case measure => simp [intOf]; omega
      | true =>
        rw [hp] at HE
        have HF := Lib.hid (firstI_at (p := cellBad top) hlt HM.out hp)
        clear hp
        go_wp2_with (go_at_call 32; refine (HE.out).mono ?_; rintro e w1 ⟨rfl, hx1⟩)
        go_ret
        exact ⟨ret_int HF.out.symm, hx.trans hx1⟩
    · have hlt' : ¬ (k : Int) < (row.length : Int) := by omega
      go_wp2_with fail
      go_ret
      refine ⟨?_, hx⟩
      have : k = row.length := by omega
      subst this
      have := HM.out
      rw [List.take_length] at this
      rw [firstI_none this]; rfl
set_option maxHeartbeats 1000000 in
theorem hasBad_any (row : List Int) (hl : row.length ≤ 1048576) (s : Sy) (sz : Int) (w : World) (a : Option Addr) (c : Nat) (hi : IsInts w a row) (sb wb : Nat) (h0 : w.cell? ⟨sb, 0, none⟩ = some (.string s.name)) (h1 : w.cell? ⟨sb, 1, none⟩ = some (.int .i64 s.arity)) (h2 : w.cell? ⟨sb, 2, none⟩ = some (.bool s.pred)) (hw : w.cell? ⟨wb, 0, none⟩ = some (.int .i64 sz)) :
    Calls Try.prog 31 #[.slice a row.length c, .func (.func 32) #[] #[.pointer (some ⟨sb, 0, none⟩), .pointer (some ⟨wb, 0, none⟩)]] w fun e w' => e = .returned (.bool (!(row.all (cellOk (s.top sz))))) ∧ Ext w w' := by
  have H := Lib.hid (idxBad_any row hl s sz w a c hi sb wb h0 h1 h2 hw)
  have HA := Lib.hid (firstI_any (cellBad (s.top sz)) row)
  clear h0 h1 h2 hw hi
  rw [← any_bad]
  generalize firstI (cellBad (s.top sz)) row = k at H HA
  go_enter Try.func31, Try.ntmps31
  go_wp2_with (go_at_call 63; refine (H.out).mono ?_; rintro e w1 ⟨rfl, hx1⟩)
  go_ret
  exact ⟨ret_bool HA.out, hx1⟩

set_option maxHeartbeats 8000000 in
set_option maxRecDepth 100000 in
theorem modCheck_any (l : List Sy) (hl : l.length ≤ 1048576) (sz : Int) (tb : List (List Int)) (htl : tb.length ≤ 1048576) (hrl : ∀ r ∈ tb, r.length ≤ 1048576) (w : World) (a : Option Addr) (n : Nat) (hln : l.length ≤ n) (hn63 : n ≤ 9223372036854775807) (hsy : IsSyms w a l) (ta : Option Addr) (tc : Nat) (hT : IsTabs w ta tb) :
    Calls Try.prog 11 #[.agg #[.slice a l.length n], .agg #[.int .i64 sz, .slice ta tb.length tc]] w fun e w' => e = .returned (.int .i64 (modCheck l sz tb)) ∧ Ext w w' := by
  obtain ⟨W, hW⟩ : ∃ W, W = (w.alloc (.cells #[.slice a l.length n] 24)).alloc (.cells #[.int .i64 sz, .slice ta tb.length tc] 27) := ⟨_, rfl⟩
  have hx : Ext w W := by subst hW; go_grown
  have k0 : W.cell? ⟨w.heap.size, 0, none⟩ = some (.slice a l.length n) := by subst hW; go_simp
  have k1 : W.cell? ⟨w.heap.size + 1, 0, none⟩ = some (.int .i64 sz) := by subst hW; go_simp
  have k2 : W.cell? ⟨w.heap.size + 1, 1, none⟩ = some (.slice ta tb.length tc) := by subst hW; go_simp
  have hS := sigCheck_any l hl W a n hln hn63 (hsy.ext hx)
  obtain ⟨Z, hZ⟩ : ∃ Z, Z = sigCheck l := ⟨_, rfl⟩
  rw [← hZ] at hS
  obtain ⟨R, hR⟩ : ∃ R, R = modCheck l sz tb := ⟨_, rfl⟩
  rw [← hR]
  have HS := Lib.hid hS; clear hS
  have hbad : ¬ (sigCheck l = 0 ∧ sizeOk l sz tb ∧ rowsOk sz l tb = true ∧ firstOne tb = true) → R = 2 := fun h => hR.trans (modCheck_bad h)
  have Hbad := Lib.hid hbad; clear hbad
  by_cases hz : Z = 0
  case neg =>
    have hz' : (Z != 0) = true := by simpa using hz
    have hR2 : R = 2 := Hbad.out fun h => hz (hZ.trans h.1)
    subst hR2
    clear hR hZ hz Hbad
    go_enter Try.func11, Try.ntmps11
    go_wp2_with ((rw [← hW]; refine (HS.out).mono ?_); rintro e w1 ⟨rfl, hx1⟩)
    go_ret
    exact ⟨rfl, hx.trans hx1⟩
  subst hz
  by_cases hsz : sizeOk l sz tb
  case neg =>
    have hR2 : R = 2 := Hbad.out fun h => hsz h.2.1
    subst hR2
    clear hR hZ Hbad
    unfold sizeOk at hsz
    have hc : sz < 1 ∨ (¬ sz < 1 ∧ (3 < sz ∨ (¬ 3 < sz ∧ ((tb.length : Int) != (l.length : Int)) = true))) := by
      by_cases h1 : sz < 1
      · exact .inl h1
      · by_cases h2 : 3 < sz
        · exact .inr ⟨h1, .inl h2⟩
        · refine .inr ⟨h1, .inr ⟨h2, ?_⟩⟩
          rw [bne_iff_ne]; omega
    clear hsz
    rcases hc with c1 | ⟨c1, c2 | ⟨c2, c3⟩⟩
    all_goals
      go_enter Try.func11, Try.ntmps11
      go_wp2_with ((rw [← hW]; clear hW; refine (HS.out).mono ?_); rintro e w1 ⟨rfl, hx1⟩; have q0 := hx1.cell k0; have q1 := hx1.cell k1; have q2 := hx1.cell k2)
      go_ret
      exact ⟨rfl, hx.trans hx1⟩
  have hsz2 := hsz
  obtain ⟨c1, c2, c3⟩ := hsz2
  have c1' : ¬ sz < 1 := by omega
  have c2' : ¬ 3 < sz := by omega
  have c3' : ((tb.length : Int) != (l.length : Int)) = false := by rw [c3]; simp
  have HC3 := Lib.hid c3; clear c3
  have HF := Lib.hid (sig_facts hZ.symm)
  have HR := Lib.hid (And.intro hZ (And.intro hsz hR))
  clear hR hZ hsz
  obtain ⟨s, rfl⟩ : ∃ s : Nat, sz = s := ⟨sz.toNat, by omega⟩
  have hs1 : 1 ≤ s := by omega
  have hs3 : s ≤ 3 := by omega
  go_enter Try.func11, Try.ntmps11
  go_wp2_with ((rw [← hW]; clear hW; refine (HS.out).mono ?_); rintro e w1 ⟨rfl, hx1⟩; have q0 := hx1.cell k0; have q1 := hx1.cell k1; have q2 := hx1.cell k2)
  replace hx := hx.trans hx1
  clear hx1 HS k0 k1 k2
  go_loopw [32] (fun i wr => ∃ k : Nat, k ≤ l.length ∧ i = .int .i64 k ∧ ((l.zip tb).take k).all (fun p => rowOk s p.1 p.2) = true ∧ Ext w1 wr) (fun i _ => l.length - (intOf i).toNat)
  case atStart => exact ⟨0, Nat.zero_le _, rfl, rfl, Below.refl _ _⟩
  case round =>
    obtain ⟨k, hkk, rfl, hall, hext⟩ := hrel
    have Hall := Lib.hid hall; clear hall
    replace q0 := hext.cell q0
    replace q1 := hext.cell q1
    replace q2 := hext.cell q2
    have hxr := hx.trans hext
    by_cases hlt : k < l.length
    case neg =>
      have hk1 : ¬ (k : Int) < l.length := by omega
      have hke : k = l.length := by omega
      have hro : rowsOk s l tb = true := zip_done HC3.out (by have := Hall.out; rwa [hke] at this)
      obtain ⟨f1, -⟩ := HF.out
      have h0 : 0 < tb.length := by have := HC3.out; omega
      have hfr := first_row HR.out.1.symm HC3.out hro h0
      obtain ⟨bt, ot, a', c', rfl, t1, hlc, hI⟩ := hT 0 h0
      obtain ⟨-, -, b3, o3, rfl, t2⟩ := hI 0 (by omega)
      have hfo := firstOne_at h0 (by omega)
      rw [hfr] at t1
      replace t1 := hxr.cell t1
      replace t2 := hxr.cell t2
      simp only [Nat.add_zero] at t1 t2
      have h0i : (0 : Int) < (tb.length : Int) := by omega
      generalize tb[0][0] = x at t2 hfo
      have HX := Lib.hid (show R = if (x == 1) = true then 0 else 2 by
        obtain ⟨g1, g2, g3⟩ := HR.out
        rw [g3, ← hfo]
        unfold modCheck
        by_cases h : firstOne tb = true
        · rw [if_pos ⟨g1.symm, g2, hro, h⟩, if_pos h]
        · rw [if_neg (fun hh => h hh.2.2.2), if_neg h])
      clear hfo hI hro hfr
      cases hxe : (x == 1) with
      | true =>
        have hxn : (x != 1) = false := by simpa using hxe
        have HX2 := Lib.hid (show R = 0 by rw [HX.out, hxe]; rfl)
        clear hxe
        go_wp2_with fail
        go_ret
        exact ⟨ret_int HX2.out.symm, hxr⟩
      | false =>
        have hxn : (x != 1) = true := by simpa using hxe
        have HX2 := Lib.hid (show R = 2 by rw [HX.out, hxe]; rfl)
        clear hxe
        go_wp2_with fail
        go_ret
        exact ⟨ret_int HX2.out.symm, hxr⟩
    have hk1 : (k : Int) < l.length := by omega
    have hkt : k < tb.length := by have := HC3.out; omega
    have hk2 : (k : Int) < tb.length := by omega
    obtain ⟨b2, o2, rfl, hok2, g0, g1, g2⟩ := (hsy.ext hxr).look hlt
    obtain ⟨bt, ot, a', c', rfl, t1, hlc, hI⟩ := (hT.ext hxr) k hkt
    obtain ⟨-, -, -, f4⟩ := HF.out
    obtain ⟨f5, f6⟩ := f4 k hlt
    clear f4
    obtain ⟨m, hm⟩ : ∃ m : Nat, l[k].arity = m := ⟨l[k].arity.toNat, by omega⟩
    have hm6 : m ≤ 6 := by omega
    have hrk : rowOk s l[k] tb[k] = (decide (tb[k].length = s ^ m) && tb[k].all (cellOk (l[k].top s))) := by unfold rowOk; rw [hm]; simp
    have HBD := Lib.hid (zip_bad (sz := (s : Int)) hlt hkt)
    have HGD := Lib.hid (zip_step (sz := (s : Int)) hlt hkt Hall.out)
    have hrlk := hrl _ (List.getElem_mem hkt)
    have hA := ext_alloc wr (.cells #[.string l[k].name, .int .i64 l[k].arity, .bool l[k].pred] 63)
    have HCF := Lib.hid (fun w' (h : Ext (wr.alloc (.cells #[.string l[k].name, .int .i64 l[k].arity, .bool l[k].pred] 63)) w') => hasBad_any tb[k] hrlk l[k] s w' a' c' ((hI.ext hA).ext h) wr.heap.size (w.heap.size + 1) (h.cell (by go_simp)) (h.cell (by go_simp)) (h.cell (by go_simp)) (h.cell (hA.cell q1)))
    have m0 : (wr.alloc (.cells #[.string l[k].name, .int .i64 l[k].arity, .bool l[k].pred] 63)).cell? ⟨wr.heap.size, 1, none⟩ = some (.int .i64 l[k].arity) := by go_simp
    have HRW := Lib.hid (fun w' => rows_any s m hs1 hs3 (by omega) w')
    rw [hrk] at HBD HGD
    generalize tb[k].all (cellOk (l[k].top s)) = AL at HCF HBD HGD
    have q3 := hA.cell q1
    have q4 := hA.cell q2
    have t2 := hA.cell t1
    generalize l[k].arity = ar at *
    subst hm
    generalize l[k].name = nm at *
    generalize l[k].pred = pr at *
    clear hI hrk hok2 hrlk
    have hne : ((tb[k].length : Int) != ((s ^ m : Nat) : Int)) = !(decide (tb[k].length = s ^ m)) := by
      by_cases h : tb[k].length = s ^ m
      · rw [decide_eq_true h, h]; simp
      · rw [decide_eq_false h]; simp only [Bool.not_false, bne_iff_ne]; omega
    generalize tb[k].length = N at *
    generalize s ^ m = M at *
    go_wp2_with fail
    obtain ⟨W2, hW2⟩ : ∃ W2, W2 = wr.alloc (.cells #[.string nm, .int .i64 m, .bool pr] 63) := ⟨_, rfl⟩
    rw [← hW2] at HCF m0 q3 q4 t2 hA ⊢
    have hE2 := hext.trans hA
    have hlt2 : wr.heap.size < W2.heap.size := by rw [hW2]; simp
    clear hW2 q1 q2 t1 g0 g1 g2
    cases hd : decide (N = M) with
    | false =>
      rw [hd] at hne HBD
      replace hne : ((N : Int) != (M : Int)) = true := hne
      have HB2 := Lib.hid (HBD.out (by simp))
      clear hd HBD HGD
      refine wp_region_noPanic ?_
      refine wp_region_X (by kernel_rfl) (by kernel_rfl) (fun _ _ _ _ _ h => h) ?_
      iterate 21 (first | (refine wpX_skip (by rfl) ?_; simp only [Act.put, List.setIfInBounds_toArray, List.set_cons_zero, List.set_cons_succ]) | (apply wpX_want; (focus rfl); (focus (intro v1 hv; have e0 := hv.cell q3; have e1 := hv.cell q4; have e2 := hv.cell t2; have e3 := hv.cell m0; go_simp; first | done | rfl | exact ⟨rfl, Below.refl _ _⟩ | exact Below.refl _ _ | (with_reducible exact HRW.out _) | (with_reducible exact HCF.out _ hv))); simp only [Act.put, List.setIfInBounds_toArray, List.set_cons_zero, List.set_cons_succ]))
      refine wpX_nil fun w' hE => NoPanic.normal ?_
      go_wp2_with fail
      go_ret
      exact ⟨ret_int (Hbad.out (fun h => by rw [HB2.out] at h; exact Bool.noConfusion h.2.2.1)).symm, hx.trans (hE2.trans hE)⟩
    | true =>
      rw [hd] at hne HBD HGD
      replace hne : ((N : Int) != (M : Int)) = false := hne
      clear hd
      cases AL with
      | false =>
        have HB2 := Lib.hid (HBD.out (by simp))
        clear HBD HGD
        refine wp_region_noPanic ?_
        refine wp_region_X (by kernel_rfl) (by kernel_rfl) (fun _ _ _ _ _ h => h) ?_
        iterate 21 (first | (refine wpX_skip (by rfl) ?_; simp only [Act.put, List.setIfInBounds_toArray, List.set_cons_zero, List.set_cons_succ]) | (apply wpX_want; (focus rfl); (focus (intro v1 hv; have e0 := hv.cell q3; have e1 := hv.cell q4; have e2 := hv.cell t2; have e3 := hv.cell m0; go_simp; first | done | rfl | exact ⟨rfl, Below.refl _ _⟩ | exact Below.refl _ _ | (with_reducible exact HRW.out _) | (with_reducible exact HCF.out _ hv))); simp only [Act.put, List.setIfInBounds_toArray, List.set_cons_zero, List.set_cons_succ]))
        refine wpX_nil fun w' hE => NoPanic.normal ?_
        go_wp2_with fail
        go_ret
        exact ⟨ret_int (Hbad.out (fun h => by rw [HB2.out] at h; exact Bool.noConfusion h.2.2.1)).symm, hx.trans (hE2.trans hE)⟩
      | true =>
        have HG2 := Lib.hid (HGD.out (by simp))
        clear HBD HGD
        refine wp_region_noPanic ?_
        refine wp_region_X (by kernel_rfl) (by kernel_rfl) (fun _ _ _ _ _ h => h) ?_
        iterate 21 (first | (refine wpX_skip (by rfl) ?_; simp only [Act.put, List.setIfInBounds_toArray, List.set_cons_zero, List.set_cons_succ]) | (apply wpX_want; (focus rfl); (focus (intro v1 hv; have e0 := hv.cell q3; have e1 := hv.cell q4; have e2 := hv.cell t2; have e3 := hv.cell m0; go_simp; first | done | rfl | exact ⟨rfl, Below.refl _ _⟩ | exact Below.refl _ _ | (with_reducible exact HRW.out _) | (with_reducible exact HCF.out _ hv))); simp only [Act.put, List.setIfInBounds_toArray, List.set_cons_zero, List.set_cons_succ]))
        refine wpX_nil fun w' hE => NoPanic.normal ?_
        go_wp2_with fail
        go_roundw
        case rel => exact ⟨k + 1, by omega, by go_num, HG2.out, hE2.trans hE⟩
        case measure => simp [intOf]; omega
end Go.Proofs.Ytapoedcmhdlpfaa
namespace Go.Proofs.Ytapoedcmhdlpfaa
open Go.ChangeShapes Go.WideShapes Go.ChangeAt Go.RowKit
attribute [local go_sem] undef
def rightB (l : List Sy) (sz : Int) (tb : List (List Int)) : Bool := decide (sizeOk l sz tb) && (rowsOk sz l tb && firstOne tb)
theorem all_stepB {α : Type} {p : α → Bool} {l : List α} {k : Nat} (h : k < l.length) (h1 : (l.take k).all p = true) (h2 : p l[k] = true) : (l.take (k + 1)).all p = true := by
  rw [List.take_succ_eq_append_getElem h, List.all_append, h1]; simpa using h2
theorem all_badB {α : Type} {p : α → Bool} {l : List α} {k : Nat} (h : k < l.length) (h2 : p l[k] = false) : l.all p = false := by
  cases hr : l.all p with
  | false => rfl
  | true => rw [List.all_eq_true] at hr; rw [hr _ (List.getElem_mem h)] at h2; cases h2
set_option maxHeartbeats 8000000 in
set_option maxRecDepth 100000 in
theorem refRight_any (l : List Sy) (hl : l.length ≤ 1048576) (hz : sigCheck l = 0) (sz : Int) (tb : List (List Int)) (htl : tb.length ≤ 1048576) (hrl : ∀ r ∈ tb, r.length ≤ 1048576) (w : World) (a : Option Addr) (n : Nat) (hsy : IsSyms w a l) (ta : Option Addr) (tc : Nat) (hT : IsTabs w ta tb) :
    Calls Try.prog 35 #[.agg #[.slice a l.length n], .agg #[.int .i64 sz, .slice ta tb.length tc]] w fun e w' => e = .returned (.bool (rightB l sz tb)) ∧ Ext w w' := by
  obtain ⟨W, hW⟩ : ∃ W, W = (w.alloc (.cells #[.slice a l.length n] 24)).alloc (.cells #[.int .i64 sz, .slice ta tb.length tc] 27) := ⟨_, rfl⟩
  have hx : Ext w W := by subst hW; go_grown
  have k0 : W.cell? ⟨w.heap.size, 0, none⟩ = some (.slice a l.length n) := by subst hW; go_simp
  have k1 : W.cell? ⟨w.heap.size + 1, 0, none⟩ = some (.int .i64 sz) := by subst hW; go_simp
  have k2 : W.cell? ⟨w.heap.size + 1, 1, none⟩ = some (.slice ta tb.length tc) := by subst hW; go_simp
  obtain ⟨R, hR⟩ : ∃ R, R = rightB l sz tb := ⟨_, rfl⟩
  rw [← hR]
  by_cases hsz : sizeOk l sz tb
  case neg =>
    have hR2 : R = false := by rw [hR]; unfold rightB; rw [decide_eq_false hsz]; rfl
    subst hR2
    clear hR
    unfold sizeOk at hsz
    have hc : sz < 1 ∨ (¬ sz < 1 ∧ (3 < sz ∨ (¬ 3 < sz ∧ ((tb.length : Int) != (l.length : Int)) = true))) := by
      by_cases h1 : sz < 1
      · exact .inl h1
      · by_cases h2 : 3 < sz
        · exact .inr ⟨h1, .inl h2⟩
        · refine .inr ⟨h1, .inr ⟨h2, ?_⟩⟩
          rw [bne_iff_ne]; omega
    clear hsz hz
    rcases hc with c1 | ⟨c1, c2 | ⟨c2, c3⟩⟩
    all_goals
      go_enter Try.func35, Try.ntmps35
      go_wp2_with fail
      go_ret
      rw [← hW]
      exact ⟨rfl, hx⟩
  have hsz2 := hsz
  obtain ⟨c1, c2, c3⟩ := hsz2
  have c1' : ¬ sz < 1 := by omega
  have c2' : ¬ 3 < sz := by omega
  have c3' : ((tb.length : Int) != (l.length : Int)) = false := by rw [c3]; simp
  have HC3 := Lib.hid c3; clear c3
  have HF := Lib.hid (sig_facts hz)
  have hR' : R = (rowsOk sz l tb && firstOne tb) := by rw [hR]; unfold rightB; rw [decide_eq_true hsz]; rfl
  have HR := Lib.hid (And.intro hz hR')
  clear hR hsz hR' hz
  obtain ⟨s, rfl⟩ : ∃ s : Nat, sz = s := ⟨sz.toNat, by omega⟩
  have hs1 : 1 ≤ s := by omega
  have hs3 : s ≤ 3 := by omega
  go_enter Try.func35, Try.ntmps35
  go_wp2_with fail
  rw [← hW]
  clear hW
  go_loopw [5] (fun i wr => ∃ k : Nat, k ≤ l.length ∧ i = .int .i64 k ∧ ((l.zip tb).take k).all (fun p => rowOk s p.1 p.2) = true ∧ Ext W wr) (fun i _ => l.length - (intOf i).toNat)
  case atStart => exact ⟨0, Nat.zero_le _, rfl, rfl, Below.refl _ _⟩
  case round =>
    obtain ⟨k, hkk, rfl, hall, hext⟩ := hrel
    have Hall := Lib.hid hall; clear hall
    have q0 := hext.cell k0
    have q1 := hext.cell k1
    have q2 := hext.cell k2
    clear k0 k1 k2
    have hxr := hx.trans hext
    by_cases hlt : k < l.length
    case neg =>
      have hk1 : ¬ (k : Int) < l.length := by omega
      have hke : k = l.length := by omega
      have hro : rowsOk s l tb = true := zip_done HC3.out (by have := Hall.out; rwa [hke] at this)
      obtain ⟨f1, -⟩ := HF.out
      have h0 : 0 < tb.length := by have := HC3.out; omega
      have hfr := first_row HR.out.1 HC3.out hro h0
      obtain ⟨bt, ot, a', c', rfl, t1, hlc, hI⟩ := hT 0 h0
      obtain ⟨-, -, b3, o3, rfl, t2⟩ := hI 0 (by omega)
      have hfo := firstOne_at h0 (by omega)
      rw [hfr] at t1
      replace t1 := hxr.cell t1
      replace t2 := hxr.cell t2
      simp only [Nat.add_zero] at t1 t2
      have h0i : (0 : Int) < (tb.length : Int) := by omega
      have h0l : decide ((0 : Int) < (l.length : Int)) = true := decide_eq_true (by omega)
      generalize tb[0][0] = x at t2 hfo
      have HX := Lib.hid (show R = (x == 1) by rw [HR.out.2, hro, hfo]; rfl)
      clear hfo hI hro hfr hke hkk
      go_wp2_with fail
      go_ret
      exact ⟨ret_bool HX.out.symm, hxr⟩
    have hk1 : (k : Int) < l.length := by omega
    have hkt : k < tb.length := by have := HC3.out; omega
    have hk2 : (k : Int) < tb.length := by omega
    obtain ⟨b2, o2, rfl, hok2, g0, g1, g2⟩ := (hsy.ext hxr).look hlt
    obtain ⟨bt, ot, a', c', rfl, t1, hlc, hI⟩ := (hT.ext hxr) k hkt
    obtain ⟨-, -, -, f4⟩ := HF.out
    obtain ⟨f5, f6⟩ := f4 k hlt
    clear f4
    obtain ⟨m, hm⟩ : ∃ m : Nat, l[k].arity = m := ⟨l[k].arity.toNat, by omega⟩
    have hm6 : m ≤ 6 := by omega
    have hrk : rowOk s l[k] tb[k] = (decide (tb[k].length = s ^ m) && tb[k].all (cellOk (l[k].top s))) := by unfold rowOk; rw [hm]; simp
    have HBD := Lib.hid (zip_bad (sz := (s : Int)) hlt hkt)
    have HGD := Lib.hid (zip_step (sz := (s : Int)) hlt hkt Hall.out)
    have hrlk := hrl _ (List.getElem_mem hkt)
    have hA := ext_alloc wr (.cells #[.string l[k].name, .int .i64 l[k].arity, .bool l[k].pred] 63)
    have m0 : (wr.alloc (.cells #[.string l[k].name, .int .i64 l[k].arity, .bool l[k].pred] 63)).cell? ⟨wr.heap.size, 1, none⟩ = some (.int .i64 l[k].arity) := by go_simp
    have m1 : (wr.alloc (.cells #[.string l[k].name, .int .i64 l[k].arity, .bool l[k].pred] 63)).cell? ⟨wr.heap.size, 2, none⟩ = some (.bool l[k].pred) := by go_simp
    have HPW := Lib.hid (fun w' => power_any s m hs1 hs3 (by omega) w')
    have htop : l[k].top s = if l[k].pred then 2 else (s : Int) := rfl
    rw [hrk] at HBD HGD
    have q3 := hA.cell q1
    have q4 := hA.cell q2
    have q5 := hA.cell q0
    have t2 := hA.cell t1
    replace hI := hI.ext hA
    obtain ⟨row, hrow⟩ : ∃ row, row = tb[k] := ⟨_, rfl⟩
    rw [← hrow] at HBD HGD hrlk t2 t1 hI
    clear hrow
    generalize l[k].top (s : Int) = T at *
    generalize l[k].arity = ar at *
    subst hm
    generalize l[k].name = nm at *
    generalize l[k].pred = pr at *
    clear hrk hok2
    have hne : ((row.length : Int) != ((s ^ m : Nat) : Int)) = !(decide (row.length = s ^ m)) := by
      by_cases h : row.length = s ^ m
      · rw [decide_eq_true h, h]; simp
      · rw [decide_eq_false h]; simp only [Bool.not_false, bne_iff_ne]; omega
    generalize s ^ m = M at *
    have hm0 : decide ((m : Int) < 0) = false := decide_eq_false (by omega)
    have hm7 : decide ((6 : Int) < (m : Int)) = false := decide_eq_false (by omega)
    go_wp2_with fail
    obtain ⟨W2, hW2⟩ : ∃ W2, W2 = wr.alloc (.cells #[.string nm, .int .i64 m, .bool pr] 63) := ⟨_, rfl⟩
    rw [← hW2] at m0 m1 q3 q4 q5 t2 hA hI ⊢
    have hE2 := hext.trans hA
    clear hW2 q0 q1 q2 t1 g0 g1 g2
    cases hd : decide (row.length = M) with
    | false =>
      rw [hd] at hne HBD
      replace hne : ((row.length : Int) != (M : Int)) = true := hne
      have HB2 := Lib.hid (HBD.out (by simp))
      clear hd HBD HGD
      refine wp_region_noPanic ?_
      refine wp_region_X (by kernel_rfl) (by kernel_rfl) (fun _ _ _ _ _ h => h) ?_
      iterate 22 (first | (refine wpX_skip (by rfl) ?_; simp only [Act.put, List.setIfInBounds_toArray, List.set_cons_zero, List.set_cons_succ]) | (apply wpX_want; (focus rfl); (focus (intro v1 hv; have e0 := hv.cell q3; have e1 := hv.cell q4; have e2 := hv.cell t2; have e3 := hv.cell m0; go_simp; first | done | rfl | exact ⟨rfl, Below.refl _ _⟩ | exact Below.refl _ _ | (with_reducible exact HPW.out _))); simp only [Act.put, List.setIfInBounds_toArray, List.set_cons_zero, List.set_cons_succ]))
      refine wpX_nil fun w' hE => NoPanic.normal ?_
      go_wp2_with fail
      go_ret
      exact ⟨ret_bool (by rw [HR.out.2, HB2.out]; rfl), hx.trans (hE2.trans hE)⟩
    | true =>
      rw [hd] at hne HBD HGD
      replace hne : ((row.length : Int) != (M : Int)) = false := hne
      simp only [Bool.true_and] at HBD HGD
      clear hd
      refine wp_region_noPanic ?_
      refine wp_region_X (by kernel_rfl) (by kernel_rfl) (fun _ _ _ _ _ h => h) ?_
      iterate 22 (first | (refine wpX_skip (by rfl) ?_; simp only [Act.put, List.setIfInBounds_toArray, List.set_cons_zero, List.set_cons_succ]) | (apply wpX_want; (focus rfl); (focus (intro v1 hv; have e0 := hv.cell q3; have e1 := hv.cell q4; have e2 := hv.cell t2; have e3 := hv.cell m0; go_simp; first | done | rfl | exact ⟨rfl, Below.refl _ _⟩ | exact Below.refl _ _ | (with_reducible exact HPW.out _))); simp only [Act.put, List.setIfInBounds_toArray, List.set_cons_zero, List.set_cons_succ]))
      refine wpX_nil fun w' hE => NoPanic.normal ?_
      replace q3 := hE.cell q3
      replace q4 := hE.cell q4
      replace t2 := hE.cell t2
      replace m1 := hE.cell m1
      replace hI := hI.ext hE
      replace hE2 := hE2.trans hE
      clear hE m0 q5 hne
      have HTOP := Lib.hid htop
      clear htop
      cases pr
      all_goals
        go_wp2_with fail
        obtain ⟨wo, rfl⟩ : ∃ wo : World, wo = w' := ⟨_, rfl⟩
        go_loopw [8] (fun j wr => ∃ i : Nat, i ≤ row.length ∧ j = .int .i64 i ∧ (row.take i).all (cellOk T) = true ∧ Ext wo wr) (fun j _ => row.length - (intOf j).toNat)
        case atStart => exact ⟨0, Nat.zero_le _, rfl, rfl, Below.refl _ _⟩
        case round =>
          obtain ⟨i, hii, rfl, hall2, hext2⟩ := hrel
          have Hall2 := Lib.hid hall2; clear hall2
          replace q3 := hext2.cell q3
          replace q4 := hext2.cell q4
          replace t2 := hext2.cell t2
          by_cases hlti : i < row.length
          · have hi1 : (i : Int) < (row.length : Int) := by omega
            obtain ⟨-, -, b5, o5, rfl, g5⟩ := (hI.ext hext2) i hlti
            have HSB := Lib.hid (all_badB (p := cellOk T) hlti)
            have HSG := Lib.hid (all_stepB (p := cellOk T) hlti Hall2.out)
            generalize row[i] = x at g5 HSB HSG
            by_cases hx0 : x < 0
            · have HB3 := Lib.hid (HBD.out (HSB.out (by unfold cellOk; rw [decide_eq_false (by omega)]; rfl)))
              clear HSB HSG HBD HGD
              go_wp2_with fail
              go_ret
              exact ⟨ret_bool (by rw [HR.out.2, HB3.out]; rfl), hx.trans (hE2.trans (by first | exact hext2 | exact hext2.drewN _))⟩
            · have hx00 : ¬ x < 0 := hx0
              by_cases hxt : T ≤ x
              · have HB3 := Lib.hid (HBD.out (HSB.out (by unfold cellOk; rw [decide_eq_false (show ¬ x < T by omega), Bool.and_false])))
                rw [HTOP.out] at hxt
                simp only [if_true, if_false, Bool.false_eq_true] at hxt
                clear HSB HSG HBD HGD
                go_wp2_with fail
                go_ret
                exact ⟨ret_bool (by rw [HR.out.2, HB3.out]; rfl), hx.trans (hE2.trans (by first | exact hext2 | exact hext2.drewN _))⟩
              · have HG3 := Lib.hid (HSG.out (by unfold cellOk; rw [decide_eq_true (show x < T by omega), decide_eq_true (show 0 ≤ x by omega)]; rfl))
                rw [HTOP.out] at hxt
                simp only [if_true, if_false, Bool.false_eq_true] at hxt
                clear HSB HSG
                go_wp2_with fail
                go_roundw
                case rel => exact ⟨i + 1, by omega, by go_num, HG3.out, by first | exact hext2 | exact hext2.drewN _⟩
                case measure => simp [intOf]; omega
          · have hi1 : ¬ (i : Int) < (row.length : Int) := by omega
            have hie : row.take i = row := List.take_of_length_le (by omega)
            have HG3 := Lib.hid (HGD.out (by have := Hall2.out; rwa [hie] at this))
            clear hie
            go_wp2_with fail
            go_roundw
            case rel => exact ⟨k + 1, by omega, by go_num, HG3.out, hE2.trans (by first | exact hext2 | exact hext2.drewN _)⟩
            case measure => simp [intOf]; omega

set_option maxHeartbeats 2000000 in
set_option maxRecDepth 100000 in
theorem refModCheck_any (l : List Sy) (hl : l.length ≤ 1048576) (sz : Int) (tb : List (List Int)) (htl : tb.length ≤ 1048576) (hrl : ∀ r ∈ tb, r.length ≤ 1048576) (w : World) (a : Option Addr) (n : Nat) (hsy : IsSyms w a l) (ta : Option Addr) (tc : Nat) (hT : IsTabs w ta tb) :
    Calls Try.prog 12 #[.agg #[.slice a l.length n], .agg #[.int .i64 sz, .slice ta tb.length tc]] w fun e w' => e = .returned (.int .i64 (modCheck l sz tb)) ∧ Ext w w' := by
  obtain ⟨W, hW⟩ : ∃ W, W = (w.alloc (.cells #[.slice a l.length n] 24)).alloc (.cells #[.int .i64 sz, .slice ta tb.length tc] 27) := ⟨_, rfl⟩
  have hx : Ext w W := by subst hW; go_grown
  have k0 : W.cell? ⟨w.heap.size, 0, none⟩ = some (.slice a l.length n) := by subst hW; go_simp
  have k1 : W.cell? ⟨w.heap.size + 1, 0, none⟩ = some (.int .i64 sz) := by subst hW; go_simp
  have k2 : W.cell? ⟨w.heap.size + 1, 1, none⟩ = some (.slice ta tb.length tc) := by subst hW; go_simp
  have hS := refSigCheck_any l hl W a n (hsy.ext hx)
  have HRT := Lib.hid (fun (hz : sigCheck l = 0) w' (h : Ext w w') => refRight_any l hl hz sz tb htl hrl w' a n (hsy.ext h) ta tc (hT.ext h))
  obtain ⟨R, hR⟩ : ∃ R, R = modCheck l sz tb := ⟨_, rfl⟩
  rw [← hR]
  have hR1 : R = if sigCheck l = 0 ∧ rightB l sz tb = true then 0 else 2 := by
    rw [hR]
    unfold modCheck rightB
    by_cases h : sigCheck l = 0 ∧ sizeOk l sz tb ∧ rowsOk sz l tb = true ∧ firstOne tb = true
    · obtain ⟨h1, h2, h3, h4⟩ := h
      rw [if_pos ⟨h1, h2, h3, h4⟩, if_pos ⟨h1, by rw [decide_eq_true h2, h3, h4]; rfl⟩]
    · rw [if_neg h, if_neg fun hh => h ⟨hh.1, by have := hh.2; simp only [Bool.and_eq_true, decide_eq_true_eq] at this; exact this⟩]
  generalize rightB l sz tb = B at HRT hR1
  generalize sigCheck l = Z at hS HRT hR1
  have HS := Lib.hid hS; clear hS
  clear hR hsy hT
  by_cases hz : Z = 0
  · subst hz
    have HR2 := Lib.hid (HRT.out rfl)
    cases B with
    | true =>
      have hR2 : R = 0 := by rw [hR1]; simp
      subst hR2
      clear hR1 HRT
      go_enter Try.func12, Try.ntmps12
      go_wp2_with (first | (go_at_call 34; rw [← hW]; clear hW; refine (HS.out).mono ?_; rintro e w1 ⟨rfl, hx1⟩; have q0 := hx1.cell k0; have q1 := hx1.cell k1; have q2 := hx1.cell k2) | (go_at_call 35; refine (HR2.out _ (hx.trans hx1)).mono ?_; rintro e w2 ⟨rfl, hx2⟩))
      go_ret
      exact ⟨rfl, hx.trans (hx1.trans hx2)⟩
    | false =>
      have hR2 : R = 2 := by rw [hR1]; simp
      subst hR2
      clear hR1 HRT
      go_enter Try.func12, Try.ntmps12
      go_wp2_with (first | (go_at_call 34; rw [← hW]; clear hW; refine (HS.out).mono ?_; rintro e w1 ⟨rfl, hx1⟩; have q0 := hx1.cell k0; have q1 := hx1.cell k1; have q2 := hx1.cell k2) | (go_at_call 35; refine (HR2.out _ (hx.trans hx1)).mono ?_; rintro e w2 ⟨rfl, hx2⟩))
      go_ret
      exact ⟨rfl, hx.trans (hx1.trans hx2)⟩
  · have hz' : (Z != 0) = true := by simpa using hz
    have hR2 : R = 2 := by rw [hR1, if_neg (fun h => hz h.1)]
    subst hR2
    clear hR1 HRT hz
    go_enter Try.func12, Try.ntmps12
    go_wp2_with ((rw [← hW]; clear hW; refine (HS.out).mono ?_); rintro e w1 ⟨rfl, hx1⟩)
    go_ret
    exact ⟨rfl, hx.trans hx1⟩
end Go.Proofs.Ytapoedcmhdlpfaa
namespace Go.Proofs.Ytapoedcmhdlpfaa
open Go.ChangeShapes Go.WideShapes Go.ChangeAt Go.RowKit
attribute [local go_sem] undef Oper.quiet Oper.quietAt Oper.quietUpon
set_option maxHeartbeats 400000 in
set_option maxRecDepth 100000 in
theorem refPred_any (l : List Sy) (_hl : l.length ≤ 1048576) (t : Tm) (hf : t.f < (l.length : Int)) (w : World) (a : Option Addr) (c : Nat) (hsy : IsSyms w a l) (x s : Value) (ht : IsTm w x s t) :
    Calls Try.prog 56 #[.agg #[.slice a l.length c], .agg #[x, s]] w fun e w' => e = .returned (.bool (predOf l t)) ∧ Ext w w' := by
  obtain ⟨a', c', rfl, rfl, hf1, hf2, -, -⟩ := ht.form
  have hx : Ext w ((w.alloc (.cells #[.slice a l.length c] 24)).alloc (.cells #[.int .i64 t.f, .slice a' t.ks.length c'] 30)) := by go_grown
  have hsy' := hsy.ext hx
  have Hx := Lib.hid hx; clear hx
  unfold predOf
  by_cases h0 : t.f < 0
  · rw [if_pos h0]
    go_enter Try.func56, Try.ntmps56
    go_wp2_with fail
    go_ret
    exact ⟨by simp, Hx.out⟩
  · rw [if_neg h0]
    obtain ⟨i, hi⟩ : ∃ i : Nat, t.f = i := ⟨t.f.toNat, by omega⟩
    rw [hi] at hsy' Hx hf ⊢
    have hil : i < l.length := by omega
    obtain ⟨b2, o2, rfl, hok2, g0, g1, g2⟩ := hsy'.look hil
    have hil' : (i : Int) < l.length := by omega
    rw [Int.toNat_natCast, List.getElem?_eq_getElem hil]
    have hge : (0 : Int) ≤ (i : Int) := by omega
    clear hsy hsy' h0 ht
    go_enter Try.func56, Try.ntmps56
    go_wp2_with fail
    go_ret
    exact ⟨by simp, Hx.out⟩

set_option maxHeartbeats 32000000 in
set_option maxRecDepth 100000 in
theorem refClCheck_any (l : List Sy) (hl : l.length ≤ 1048576) (c : List Lt) (hcs : ∀ x ∈ c, x.sized) (hcl : c.length ≤ 1048576) (w : World) (a : Option Addr) (n : Nat) (hsy : IsSyms w a l) (ca : Option Addr) (cn : Nat) (hc : IsLits w ca c) :
    Calls Try.prog 26 #[.agg #[.slice a l.length n], .slice ca c.length cn] w fun e w' => e = .returned (.int .i64 (clauseCheck l c)) ∧ Ext w w' := by
  obtain ⟨W, hW⟩ : ∃ W, W = w.alloc (.cells #[.slice a l.length n] 24) := ⟨_, rfl⟩
  have hx : Ext w W := by subst hW; go_grown
  have k0 : W.cell? ⟨w.heap.size, 0, none⟩ = some (.slice a l.length n) := by subst hW; go_simp
  have hS := refSigCheck_any l hl W a n (hsy.ext hx)
  obtain ⟨Z, hZ⟩ : ∃ Z, Z = sigCheck l := ⟨_, rfl⟩
  rw [← hZ] at hS
  obtain ⟨R, hR⟩ : ∃ R, R = clauseCheck l c := ⟨_, rfl⟩
  rw [← hR]
  have HS := Lib.hid hS; clear hS
  by_cases hz : Z = 0
  case neg =>
    have hz' : (Z != 0) = true := by simpa using hz
    have hR2 : R = 2 := by rw [hR]; unfold clauseCheck; rw [if_neg]; rintro ⟨h, -⟩; exact hz (hZ.trans h)
    subst hR2
    clear hR hZ hz
    go_enter Try.func26, Try.ntmps26
    go_wp2_with ((rw [← hW]; refine (HS.out).mono ?_); rintro e w1 ⟨rfl, hx1⟩)
    go_ret
    exact ⟨rfl, hx.trans hx1⟩
  subst hz
  by_cases h16 : 16 < c.length
  · have hR2 : R = 2 := by rw [hR]; unfold clauseCheck; rw [if_neg]; rintro ⟨-, h, -⟩; omega
    subst hR2
    have h16i : (16 : Int) < (c.length : Int) := by omega
    clear hR hZ
    go_enter Try.func26, Try.ntmps26
    go_wp2_with ((rw [← hW]; refine (HS.out).mono ?_); rintro e w1 ⟨rfl, hx1⟩)
    go_ret
    exact ⟨rfl, hx.trans hx1⟩
  have h16i : (c.length : Int) ≤ 16 := by omega
  have HZ := Lib.hid hZ.symm
  have HR := Lib.hid hR
  clear hR hZ
  have Hcs := Lib.hid hcs; clear hcs
  go_enter Try.func26, Try.ntmps26
  go_wp2_with ((rw [← hW]; clear hW; refine (HS.out).mono ?_); rintro e w1 ⟨rfl, hx1⟩)
  replace k0 := hx1.cell k0
  replace hx := hx.trans hx1
  clear hx1 HS
  go_loopw [5] (fun i wr => ∃ k : Nat, k ≤ c.length ∧ i = .int .i64 k ∧ (c.take k).all (litOk l) = true ∧ Ext w1 wr) (fun i _ => c.length - (intOf i).toNat)
  case atStart => exact ⟨0, Nat.zero_le _, rfl, rfl, Below.refl _ _⟩
  case round =>
    obtain ⟨k, hkk, rfl, hall, hext⟩ := hrel
    have Hall := Lib.hid hall; clear hall
    have q0 := hext.cell k0
    have hxr := hx.trans hext
    by_cases hlt : k < c.length
    case neg =>
      have hk1 : ¬ (k : Int) < c.length := by omega
      have hke : k = c.length := by omega
      have hR0 : R = 0 := by
        rw [HR.out]
        have h := Hall.out
        rw [hke] at h
        exact clauseCheck_good HZ.out (by omega) h
      subst hR0
      go_wp2_with fail
      go_ret
      exact ⟨rfl, hxr⟩
    have hk1 : (k : Int) < c.length := by omega
    obtain ⟨hsl, hsr⟩ := Hcs.out _ (List.getElem_mem hlt)
    obtain ⟨b, o, la, lc, ra, rc, rfl, h1, h2, h3, h4, h5, hL, hRt⟩ := hc k hlt
    have g1 := hxr.cell h1
    have g2 := hxr.cell h2
    have g3 := hxr.cell h3
    have g4 := hxr.cell h4
    have g5 := hxr.cell h5
    clear h1 h2 h3 h4 h5
    have Hbad := Lib.hid (fun h => HR.out.trans (clauseCheck_bad (l := l) hlt h))
    have Hgood := Lib.hid (all_step (l := l) hlt Hall.out)
    have cL := fun w' (h : Ext w w') => refTermCheck_any l hl c[k].l hsl w' a n (hsy.ext h) _ _ (hL.ext h)
    have cR := fun w' (h : Ext w w') => refTermCheck_any l hl c[k].r hsr w' a n (hsy.ext h) _ _ (hRt.ext h)
    have tL := fun w' (h : Ext w w') => refTrue_any c[k].l w' _ _ (hL.ext h)
    have tR := fun w' (h : Ext w w') => refTrue_any c[k].r w' _ _ (hRt.ext h)
    have pL := fun (hz : termCheck l c[k].l = 0) w' (h : Ext w w') => refPred_any l hl c[k].l (checked_lt hz) w' a n (hsy.ext h) _ _ (hL.ext h)
    have pR := fun (hz : termCheck l c[k].r = 0) w' (h : Ext w w') => refPred_any l hl c[k].r (checked_lt hz) w' a n (hsy.ext h) _ _ (hRt.ext h)
    have hok : litOk l c[k] = (decide (termCheck l c[k].l = 0) && (decide (termCheck l c[k].r = 0) && ((predOf l c[k].l == predOf l c[k].r) && !(predOf l c[k].l && (c[k].l.isTrue || !c[k].r.isTrue))))) := rfl
    have hcaL := checkCases l c[k].l
    have hcaR := checkCases l c[k].r
    generalize litOk l c[k] = OK at Hbad Hgood hok
    generalize termCheck l c[k].l = ZL at cL pL hok hcaL
    generalize termCheck l c[k].r = ZR at cR pR hok hcaR
    generalize predOf l c[k].l = PL at pL hok
    generalize predOf l c[k].r = PR at pR hok
    generalize c[k].l.isTrue = TL at tL hok
    generalize c[k].r.isTrue = TR at tR hok
    generalize c[k].neg = neg at g1
    generalize c[k].l.f = lf at g2 cL tL pL hL
    generalize c[k].r.f = rf at g4 cR tR pR hRt
    generalize c[k].l.ks.length = ll at g3 cL tL pL hL
    generalize c[k].r.ks.length = rl at g5 cR tR pR hRt
    have CL := Lib.hid cL
    have CR := Lib.hid cR
    have TLc := Lib.hid tL
    have TRc := Lib.hid tR
    have PLc := Lib.hid pL
    have PRc := Lib.hid pR
    have Hok := Lib.hid hok
    clear cL cR tL tR pL pR hok hL hRt
    clear hsy hc
    have hA := ext_alloc wr (.cells #[.bool neg, .int .i64 lf, .slice la ll lc, .int .i64 rf, .slice ra rl rc] 49)
    have m := cells5 wr (.bool neg) (.int .i64 lf) (.slice la ll lc) (.int .i64 rf) (.slice ra rl rc) 49
    rcases hcaL with rfl | rfl
    case inr =>
      obtain ⟨m0, m1, m2, m3, m4⟩ := m
      have m5 := hA.cell q0
      have E2 := hxr.trans hA
      go_wp2_with fail
      obtain ⟨W2, hW2⟩ : ∃ W2, W2 = wr.alloc (.cells #[.bool neg, .int .i64 lf, .slice la ll lc, .int .i64 rf, .slice ra rl rc] 49) := ⟨_, rfl⟩
      rw [← hW2] at hA m0 m1 m2 m3 m4 m5 E2 ⊢
      clear hW2
      go_wp2_with (first
        | (go_at_call 20; with_reducible refine (CL.out _ E2).mono ?_; rintro e w3 ⟨rfl, hx3⟩; have d0 := hx3.cell m0; have d1 := hx3.cell m1; have d2 := hx3.cell m2; have d3 := hx3.cell m3; have d4 := hx3.cell m4; have d5 := hx3.cell m5; have E3 := E2.trans hx3))
      go_ret
      exact ⟨ret_int (Hbad.out (by rw [Hok.out]; simp)).symm, E3⟩
    rcases hcaR with rfl | rfl
    case inr =>
      obtain ⟨m0, m1, m2, m3, m4⟩ := m
      have m5 := hA.cell q0
      have E2 := hxr.trans hA
      go_wp2_with fail
      obtain ⟨W2, hW2⟩ : ∃ W2, W2 = wr.alloc (.cells #[.bool neg, .int .i64 lf, .slice la ll lc, .int .i64 rf, .slice ra rl rc] 49) := ⟨_, rfl⟩
      rw [← hW2] at hA m0 m1 m2 m3 m4 m5 E2 ⊢
      clear hW2
      go_wp2_with (first
        | (go_at_call 20; with_reducible refine (CL.out _ E2).mono ?_; rintro e w3 ⟨rfl, hx3⟩; have d0 := hx3.cell m0; have d1 := hx3.cell m1; have d2 := hx3.cell m2; have d3 := hx3.cell m3; have d4 := hx3.cell m4; have d5 := hx3.cell m5; have E3 := E2.trans hx3)
        | (go_at_call 20; with_reducible refine (CR.out _ E3).mono ?_; rintro e w4 ⟨rfl, hx4⟩; have u0 := hx4.cell d0; have u1 := hx4.cell d1; have u2 := hx4.cell d2; have u3 := hx4.cell d3; have u4 := hx4.cell d4; have u5 := hx4.cell d5; have E4 := E3.trans hx4))
      go_ret
      exact ⟨ret_int (Hbad.out (by rw [Hok.out]; simp)).symm, E4⟩
    have PLd := Lib.hid (PLc.out rfl)
    have PRd := Lib.hid (PRc.out rfl)
    clear PLc PRc
    cases PL with
    | false =>
      cases PR with
      | false =>
        obtain ⟨m0, m1, m2, m3, m4⟩ := m
        have m5 := hA.cell q0
        have E2 := hxr.trans hA
        go_wp2_with fail
        obtain ⟨W2, hW2⟩ : ∃ W2, W2 = wr.alloc (.cells #[.bool neg, .int .i64 lf, .slice la ll lc, .int .i64 rf, .slice ra rl rc] 49) := ⟨_, rfl⟩
        rw [← hW2] at hA m0 m1 m2 m3 m4 m5 E2 ⊢
        clear hW2
        go_wp2_with (first
          | (go_at_call 20; with_reducible refine (CL.out _ E2).mono ?_; rintro e w3 ⟨rfl, hx3⟩; have d0 := hx3.cell m0; have d1 := hx3.cell m1; have d2 := hx3.cell m2; have d3 := hx3.cell m3; have d4 := hx3.cell m4; have d5 := hx3.cell m5; have E3 := E2.trans hx3)
          | (go_at_call 20; with_reducible refine (CR.out _ E3).mono ?_; rintro e w4 ⟨rfl, hx4⟩; have u0 := hx4.cell d0; have u1 := hx4.cell d1; have u2 := hx4.cell d2; have u3 := hx4.cell d3; have u4 := hx4.cell d4; have u5 := hx4.cell d5; have E4 := E3.trans hx4))
        have F4 : Ext w1 w4 := hext.trans (hA.trans (hx3.trans hx4))
        refine wp_region_noPanic ?_
        refine wp_region_W Ext 26 goes_ext (by kernel_rfl) (by kernel_rfl) (fun _ _ _ _ _ h => h) ?_
        have HU := Lib.hid (And.intro E4 (And.intro u0 (And.intro u1 (And.intro u2 (And.intro u3 (And.intro u4 u5))))))
        clear u0 u1 u2 u3 u4 u5 hA hx hext hxr
        iterate 26 (first
          | (refine wpW_skip (by decide) (by rfl) ?_; simp only [Act.put, List.setIfInBounds_toArray, List.set_cons_zero, List.set_cons_succ])
          | (apply wpW_want
             · decide
             · rfl
             · intro v1 hv
               obtain ⟨EE, u0, u1, u2, u3, u4, u5⟩ := HU.out
               have hv2 := ext_base hv
               have EV := EE.trans hv2
               replace u0 := hv2.cell u0
               replace u1 := hv2.cell u1
               replace u2 := hv2.cell u2
               replace u3 := hv2.cell u3
               replace u4 := hv2.cell u4
               replace u5 := hv2.cell u5
               go_simp
               first
                 | done
                 | rfl
                 | ((with_reducible refine (PLd.out _ EV).mono ?_); rintro e w' ⟨rfl, hw'⟩; exact ⟨rfl, hw'⟩)
                 | ((with_reducible refine (PRd.out _ EV).mono ?_); rintro e w' ⟨rfl, hw'⟩; exact ⟨rfl, hw'⟩)
                 | ((with_reducible refine (TLc.out _ EV).mono ?_); rintro e w' ⟨rfl, hw'⟩; exact ⟨rfl, hw'⟩)
                 | ((with_reducible refine (TRc.out _ EV).mono ?_); rintro e w' ⟨rfl, hw'⟩; exact ⟨rfl, hw'⟩)
             simp only [Act.put, List.setIfInBounds_toArray, List.set_cons_zero, List.set_cons_succ]))
        refine wpW_end (fun w' hv => ?_)
        refine NoPanic.normal ?_
        have hv2 := ext_base hv
        have EV := E4.trans hv2
        have FV := F4.trans hv2
        go_wp2_with fail
        go_roundw
        case rel => exact ⟨k + 1, by omega, by go_num, Hgood.out (by rw [Hok.out]; rfl), FV⟩
        case measure => simp [intOf]; omega
      | true =>
        obtain ⟨m0, m1, m2, m3, m4⟩ := m
        have m5 := hA.cell q0
        have E2 := hxr.trans hA
        go_wp2_with fail
        obtain ⟨W2, hW2⟩ : ∃ W2, W2 = wr.alloc (.cells #[.bool neg, .int .i64 lf, .slice la ll lc, .int .i64 rf, .slice ra rl rc] 49) := ⟨_, rfl⟩
        rw [← hW2] at hA m0 m1 m2 m3 m4 m5 E2 ⊢
        clear hW2
        go_wp2_with (first
          | (go_at_call 20; with_reducible refine (CL.out _ E2).mono ?_; rintro e w3 ⟨rfl, hx3⟩; have d0 := hx3.cell m0; have d1 := hx3.cell m1; have d2 := hx3.cell m2; have d3 := hx3.cell m3; have d4 := hx3.cell m4; have d5 := hx3.cell m5; have E3 := E2.trans hx3)
          | (go_at_call 20; with_reducible refine (CR.out _ E3).mono ?_; rintro e w4 ⟨rfl, hx4⟩; have u0 := hx4.cell d0; have u1 := hx4.cell d1; have u2 := hx4.cell d2; have u3 := hx4.cell d3; have u4 := hx4.cell d4; have u5 := hx4.cell d5; have E4 := E3.trans hx4))
        have F4 : Ext w1 w4 := hext.trans (hA.trans (hx3.trans hx4))
        refine wp_region_noPanic ?_
        refine wp_region_W Ext 26 goes_ext (by kernel_rfl) (by kernel_rfl) (fun _ _ _ _ _ h => h) ?_
        have HU := Lib.hid (And.intro E4 (And.intro u0 (And.intro u1 (And.intro u2 (And.intro u3 (And.intro u4 u5))))))
        clear u0 u1 u2 u3 u4 u5 hA hx hext hxr
        iterate 26 (first
          | (refine wpW_skip (by decide) (by rfl) ?_; simp only [Act.put, List.setIfInBounds_toArray, List.set_cons_zero, List.set_cons_succ])
          | (apply wpW_want
             · decide
             · rfl
             · intro v1 hv
               obtain ⟨EE, u0, u1, u2, u3, u4, u5⟩ := HU.out
               have hv2 := ext_base hv
               have EV := EE.trans hv2
               replace u0 := hv2.cell u0
               replace u1 := hv2.cell u1
               replace u2 := hv2.cell u2
               replace u3 := hv2.cell u3
               replace u4 := hv2.cell u4
               replace u5 := hv2.cell u5
               go_simp
               first
                 | done
                 | rfl
                 | ((with_reducible refine (PLd.out _ EV).mono ?_); rintro e w' ⟨rfl, hw'⟩; exact ⟨rfl, hw'⟩)
                 | ((with_reducible refine (PRd.out _ EV).mono ?_); rintro e w' ⟨rfl, hw'⟩; exact ⟨rfl, hw'⟩)
                 | ((with_reducible refine (TLc.out _ EV).mono ?_); rintro e w' ⟨rfl, hw'⟩; exact ⟨rfl, hw'⟩)
                 | ((with_reducible refine (TRc.out _ EV).mono ?_); rintro e w' ⟨rfl, hw'⟩; exact ⟨rfl, hw'⟩)
             simp only [Act.put, List.setIfInBounds_toArray, List.set_cons_zero, List.set_cons_succ]))
        refine wpW_end (fun w' hv => ?_)
        refine NoPanic.normal ?_
        have hv2 := ext_base hv
        have EV := E4.trans hv2
        have FV := F4.trans hv2
        go_wp2_with fail
        go_ret
        exact ⟨ret_int (Hbad.out (by rw [Hok.out]; simp)).symm, EV⟩
    | true =>
      cases PR with
      | false =>
        obtain ⟨m0, m1, m2, m3, m4⟩ := m
        have m5 := hA.cell q0
        have E2 := hxr.trans hA
        go_wp2_with fail
        obtain ⟨W2, hW2⟩ : ∃ W2, W2 = wr.alloc (.cells #[.bool neg, .int .i64 lf, .slice la ll lc, .int .i64 rf, .slice ra rl rc] 49) := ⟨_, rfl⟩
        rw [← hW2] at hA m0 m1 m2 m3 m4 m5 E2 ⊢
        clear hW2
        go_wp2_with (first
          | (go_at_call 20; with_reducible refine (CL.out _ E2).mono ?_; rintro e w3 ⟨rfl, hx3⟩; have d0 := hx3.cell m0; have d1 := hx3.cell m1; have d2 := hx3.cell m2; have d3 := hx3.cell m3; have d4 := hx3.cell m4; have d5 := hx3.cell m5; have E3 := E2.trans hx3)
          | (go_at_call 20; with_reducible refine (CR.out _ E3).mono ?_; rintro e w4 ⟨rfl, hx4⟩; have u0 := hx4.cell d0; have u1 := hx4.cell d1; have u2 := hx4.cell d2; have u3 := hx4.cell d3; have u4 := hx4.cell d4; have u5 := hx4.cell d5; have E4 := E3.trans hx4))
        have F4 : Ext w1 w4 := hext.trans (hA.trans (hx3.trans hx4))
        refine wp_region_noPanic ?_
        refine wp_region_W Ext 26 goes_ext (by kernel_rfl) (by kernel_rfl) (fun _ _ _ _ _ h => h) ?_
        have HU := Lib.hid (And.intro E4 (And.intro u0 (And.intro u1 (And.intro u2 (And.intro u3 (And.intro u4 u5))))))
        clear u0 u1 u2 u3 u4 u5 hA hx hext hxr
        iterate 26 (first
          | (refine wpW_skip (by decide) (by rfl) ?_; simp only [Act.put, List.setIfInBounds_toArray, List.set_cons_zero, List.set_cons_succ])
          | (apply wpW_want
             · decide
             · rfl
             · intro v1 hv
               obtain ⟨EE, u0, u1, u2, u3, u4, u5⟩ := HU.out
               have hv2 := ext_base hv
               have EV := EE.trans hv2
               replace u0 := hv2.cell u0
               replace u1 := hv2.cell u1
               replace u2 := hv2.cell u2
               replace u3 := hv2.cell u3
               replace u4 := hv2.cell u4
               replace u5 := hv2.cell u5
               go_simp
               first
                 | done
                 | rfl
                 | ((with_reducible refine (PLd.out _ EV).mono ?_); rintro e w' ⟨rfl, hw'⟩; exact ⟨rfl, hw'⟩)
                 | ((with_reducible refine (PRd.out _ EV).mono ?_); rintro e w' ⟨rfl, hw'⟩; exact ⟨rfl, hw'⟩)
                 | ((with_reducible refine (TLc.out _ EV).mono ?_); rintro e w' ⟨rfl, hw'⟩; exact ⟨rfl, hw'⟩)
                 | ((with_reducible refine (TRc.out _ EV).mono ?_); rintro e w' ⟨rfl, hw'⟩; exact ⟨rfl, hw'⟩)
             simp only [Act.put, List.setIfInBounds_toArray, List.set_cons_zero, List.set_cons_succ]))
        refine wpW_end (fun w' hv => ?_)
        refine NoPanic.normal ?_
        have hv2 := ext_base hv
        have EV := E4.trans hv2
        have FV := F4.trans hv2
        go_wp2_with fail
        go_ret
        exact ⟨ret_int (Hbad.out (by rw [Hok.out]; simp)).symm, EV⟩
      | true =>
        cases TL with
        | true =>
          obtain ⟨m0, m1, m2, m3, m4⟩ := m
          have m5 := hA.cell q0
          have E2 := hxr.trans hA
          go_wp2_with fail
          obtain ⟨W2, hW2⟩ : ∃ W2, W2 = wr.alloc (.cells #[.bool neg, .int .i64 lf, .slice la ll lc, .int .i64 rf, .slice ra rl rc] 49) := ⟨_, rfl⟩
          rw [← hW2] at hA m0 m1 m2 m3 m4 m5 E2 ⊢
          clear hW2
          go_wp2_with (first
            | (go_at_call 20; with_reducible refine (CL.out _ E2).mono ?_; rintro e w3 ⟨rfl, hx3⟩; have d0 := hx3.cell m0; have d1 := hx3.cell m1; have d2 := hx3.cell m2; have d3 := hx3.cell m3; have d4 := hx3.cell m4; have d5 := hx3.cell m5; have E3 := E2.trans hx3)
            | (go_at_call 20; with_reducible refine (CR.out _ E3).mono ?_; rintro e w4 ⟨rfl, hx4⟩; have u0 := hx4.cell d0; have u1 := hx4.cell d1; have u2 := hx4.cell d2; have u3 := hx4.cell d3; have u4 := hx4.cell d4; have u5 := hx4.cell d5; have E4 := E3.trans hx4))
          have F4 : Ext w1 w4 := hext.trans (hA.trans (hx3.trans hx4))
          refine wp_region_noPanic ?_
          refine wp_region_W Ext 26 goes_ext (by kernel_rfl) (by kernel_rfl) (fun _ _ _ _ _ h => h) ?_
          have HU := Lib.hid (And.intro E4 (And.intro u0 (And.intro u1 (And.intro u2 (And.intro u3 (And.intro u4 u5))))))
          clear u0 u1 u2 u3 u4 u5 hA hx hext hxr
          iterate 26 (first
            | (refine wpW_skip (by decide) (by rfl) ?_; simp only [Act.put, List.setIfInBounds_toArray, List.set_cons_zero, List.set_cons_succ])
            | (apply wpW_want
               · decide
               · rfl
               · intro v1 hv
                 obtain ⟨EE, u0, u1, u2, u3, u4, u5⟩ := HU.out
                 have hv2 := ext_base hv
                 have EV := EE.trans hv2
                 replace u0 := hv2.cell u0
                 replace u1 := hv2.cell u1
                 replace u2 := hv2.cell u2
                 replace u3 := hv2.cell u3
                 replace u4 := hv2.cell u4
                 replace u5 := hv2.cell u5
                 go_simp
                 first
                   | done
                   | rfl
                   | ((with_reducible refine (PLd.out _ EV).mono ?_); rintro e w' ⟨rfl, hw'⟩; exact ⟨rfl, hw'⟩)
                   | ((with_reducible refine (PRd.out _ EV).mono ?_); rintro e w' ⟨rfl, hw'⟩; exact ⟨rfl, hw'⟩)
                   | ((with_reducible refine (TLc.out _ EV).mono ?_); rintro e w' ⟨rfl, hw'⟩; exact ⟨rfl, hw'⟩)
                   | ((with_reducible refine (TRc.out _ EV).mono ?_); rintro e w' ⟨rfl, hw'⟩; exact ⟨rfl, hw'⟩)
               simp only [Act.put, List.setIfInBounds_toArray, List.set_cons_zero, List.set_cons_succ]))
          refine wpW_end (fun w' hv => ?_)
          refine NoPanic.normal ?_
          have hv2 := ext_base hv
          have EV := E4.trans hv2
          have FV := F4.trans hv2
          go_wp2_with fail
          go_ret
          exact ⟨ret_int (Hbad.out (by rw [Hok.out]; simp)).symm, EV⟩
        | false =>
          cases TR with
          | true =>
            obtain ⟨m0, m1, m2, m3, m4⟩ := m
            have m5 := hA.cell q0
            have E2 := hxr.trans hA
            go_wp2_with fail
            obtain ⟨W2, hW2⟩ : ∃ W2, W2 = wr.alloc (.cells #[.bool neg, .int .i64 lf, .slice la ll lc, .int .i64 rf, .slice ra rl rc] 49) := ⟨_, rfl⟩
            rw [← hW2] at hA m0 m1 m2 m3 m4 m5 E2 ⊢
            clear hW2
            go_wp2_with (first
              | (go_at_call 20; with_reducible refine (CL.out _ E2).mono ?_; rintro e w3 ⟨rfl, hx3⟩; have d0 := hx3.cell m0; have d1 := hx3.cell m1; have d2 := hx3.cell m2; have d3 := hx3.cell m3; have d4 := hx3.cell m4; have d5 := hx3.cell m5; have E3 := E2.trans hx3)
              | (go_at_call 20; with_reducible refine (CR.out _ E3).mono ?_; rintro e w4 ⟨rfl, hx4⟩; have u0 := hx4.cell d0; have u1 := hx4.cell d1; have u2 := hx4.cell d2; have u3 := hx4.cell d3; have u4 := hx4.cell d4; have u5 := hx4.cell d5; have E4 := E3.trans hx4))
            have F4 : Ext w1 w4 := hext.trans (hA.trans (hx3.trans hx4))
            refine wp_region_noPanic ?_
            refine wp_region_W Ext 26 goes_ext (by kernel_rfl) (by kernel_rfl) (fun _ _ _ _ _ h => h) ?_
            have HU := Lib.hid (And.intro E4 (And.intro u0 (And.intro u1 (And.intro u2 (And.intro u3 (And.intro u4 u5))))))
            clear u0 u1 u2 u3 u4 u5 hA hx hext hxr
            iterate 26 (first
              | (refine wpW_skip (by decide) (by rfl) ?_; simp only [Act.put, List.setIfInBounds_toArray, List.set_cons_zero, List.set_cons_succ])
              | (apply wpW_want
                 · decide
                 · rfl
                 · intro v1 hv
                   obtain ⟨EE, u0, u1, u2, u3, u4, u5⟩ := HU.out
                   have hv2 := ext_base hv
                   have EV := EE.trans hv2
                   replace u0 := hv2.cell u0
                   replace u1 := hv2.cell u1
                   replace u2 := hv2.cell u2
                   replace u3 := hv2.cell u3
                   replace u4 := hv2.cell u4
                   replace u5 := hv2.cell u5
                   go_simp
                   first
                     | done
                     | rfl
                     | ((with_reducible refine (PLd.out _ EV).mono ?_); rintro e w' ⟨rfl, hw'⟩; exact ⟨rfl, hw'⟩)
                     | ((with_reducible refine (PRd.out _ EV).mono ?_); rintro e w' ⟨rfl, hw'⟩; exact ⟨rfl, hw'⟩)
                     | ((with_reducible refine (TLc.out _ EV).mono ?_); rintro e w' ⟨rfl, hw'⟩; exact ⟨rfl, hw'⟩)
                     | ((with_reducible refine (TRc.out _ EV).mono ?_); rintro e w' ⟨rfl, hw'⟩; exact ⟨rfl, hw'⟩)
                 simp only [Act.put, List.setIfInBounds_toArray, List.set_cons_zero, List.set_cons_succ]))
            refine wpW_end (fun w' hv => ?_)
            refine NoPanic.normal ?_
            have hv2 := ext_base hv
            have EV := E4.trans hv2
            have FV := F4.trans hv2
            go_wp2_with fail
            go_roundw
            case rel => exact ⟨k + 1, by omega, by go_num, Hgood.out (by rw [Hok.out]; rfl), FV⟩
            case measure => simp [intOf]; omega
          | false =>
            obtain ⟨m0, m1, m2, m3, m4⟩ := m
            have m5 := hA.cell q0
            have E2 := hxr.trans hA
            go_wp2_with fail
            obtain ⟨W2, hW2⟩ : ∃ W2, W2 = wr.alloc (.cells #[.bool neg, .int .i64 lf, .slice la ll lc, .int .i64 rf, .slice ra rl rc] 49) := ⟨_, rfl⟩
            rw [← hW2] at hA m0 m1 m2 m3 m4 m5 E2 ⊢
            clear hW2
            go_wp2_with (first
              | (go_at_call 20; with_reducible refine (CL.out _ E2).mono ?_; rintro e w3 ⟨rfl, hx3⟩; have d0 := hx3.cell m0; have d1 := hx3.cell m1; have d2 := hx3.cell m2; have d3 := hx3.cell m3; have d4 := hx3.cell m4; have d5 := hx3.cell m5; have E3 := E2.trans hx3)
              | (go_at_call 20; with_reducible refine (CR.out _ E3).mono ?_; rintro e w4 ⟨rfl, hx4⟩; have u0 := hx4.cell d0; have u1 := hx4.cell d1; have u2 := hx4.cell d2; have u3 := hx4.cell d3; have u4 := hx4.cell d4; have u5 := hx4.cell d5; have E4 := E3.trans hx4))
            have F4 : Ext w1 w4 := hext.trans (hA.trans (hx3.trans hx4))
            refine wp_region_noPanic ?_
            refine wp_region_W Ext 26 goes_ext (by kernel_rfl) (by kernel_rfl) (fun _ _ _ _ _ h => h) ?_
            have HU := Lib.hid (And.intro E4 (And.intro u0 (And.intro u1 (And.intro u2 (And.intro u3 (And.intro u4 u5))))))
            clear u0 u1 u2 u3 u4 u5 hA hx hext hxr
            iterate 26 (first
              | (refine wpW_skip (by decide) (by rfl) ?_; simp only [Act.put, List.setIfInBounds_toArray, List.set_cons_zero, List.set_cons_succ])
              | (apply wpW_want
                 · decide
                 · rfl
                 · intro v1 hv
                   obtain ⟨EE, u0, u1, u2, u3, u4, u5⟩ := HU.out
                   have hv2 := ext_base hv
                   have EV := EE.trans hv2
                   replace u0 := hv2.cell u0
                   replace u1 := hv2.cell u1
                   replace u2 := hv2.cell u2
                   replace u3 := hv2.cell u3
                   replace u4 := hv2.cell u4
                   replace u5 := hv2.cell u5
                   go_simp
                   first
                     | done
                     | rfl
                     | ((with_reducible refine (PLd.out _ EV).mono ?_); rintro e w' ⟨rfl, hw'⟩; exact ⟨rfl, hw'⟩)
                     | ((with_reducible refine (PRd.out _ EV).mono ?_); rintro e w' ⟨rfl, hw'⟩; exact ⟨rfl, hw'⟩)
                     | ((with_reducible refine (TLc.out _ EV).mono ?_); rintro e w' ⟨rfl, hw'⟩; exact ⟨rfl, hw'⟩)
                     | ((with_reducible refine (TRc.out _ EV).mono ?_); rintro e w' ⟨rfl, hw'⟩; exact ⟨rfl, hw'⟩)
                 simp only [Act.put, List.setIfInBounds_toArray, List.set_cons_zero, List.set_cons_succ]))
            refine wpW_end (fun w' hv => ?_)
            refine NoPanic.normal ?_
            have hv2 := ext_base hv
            have EV := E4.trans hv2
            have FV := F4.trans hv2
            go_wp2_with fail
            go_ret
            exact ⟨ret_int (Hbad.out (by rw [Hok.out]; simp)).symm, EV⟩

end Go.Proofs.Ytapoedcmhdlpfaa
