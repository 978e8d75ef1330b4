/- What prec.Check and the reference's Check return. Conditions: lengths fit.
A copy of a signature; the law PrecChecks, given what prec.Make returns. Conditions: lengths fit. -/
import Derived.Test.YtdmiphdohfcbeaaPrecK2
import Derived.Test.YtdmiphdohfcbeaaPrecR1
import Derived.Test.YtdmiphdohfcbeaaCheck1
import Derived.Test.YtdmiphdohfcbeaaPrecW1
namespace Go.Proofs.Ytdmiphdohfcbeaa
open Go.ChangeShapes Go.WideShapes Go.ChangeAt Go.RowKit
attribute [local go_sem] undef

theorem check_any (l : List Sy) (hl : l.length ≤ 1048576) (o : Ord) (hpl : o.prec.length ≤ 1048576) (hwl : o.wts.length ≤ 1048576) (w : World) (a : Option Addr) (n : Nat) (v : Value) (hln : l.length ≤ n) (hn63 : n ≤ 9223372036854775807) (hsy : IsSyms w a l) (ho : IsOrd w v o) :
    Calls Try.prog 7 #[.agg #[.slice a l.length n], v] w fun e w' => e = .returned (.int .i64 (ordCheck l o.lpo o.prec o.wts o.var)) ∧ Ext w w' := by
  by_cases hz : sigCheck l = 0
  · by_cases h : o.prec.length = l.length
    · exact check_ok l o hz h hwl w a n v hln hn63 hsy ho
    · rw [ordCheck_len h]; exact check_len l hl o h hpl w a n v hln hn63 hsy ho
  · rw [ordCheck_sig hz]; exact check_sig l hl o hz w a n v hln hn63 hsy ho

set_option maxHeartbeats 4000000 in
set_option maxRecDepth 100000 in
theorem refCheck07_any (l : List Sy) (hl : l.length ≤ 1048576) (o : Ord) (hpl : o.prec.length ≤ 1048576) (hwl : o.wts.length ≤ 1048576) (w : World) (a : Option Addr) (n : Nat) (v : Value) (hsy : IsSyms w a l) (ho : IsOrd w v o) :
    Calls Try.prog 9 #[.agg #[.slice a l.length n], v] w fun e w' => e = .returned (.int .i64 (ordCheck l o.lpo o.prec o.wts o.var)) ∧ Ext w w' := by
  obtain ⟨lpo, prec, wts, var⟩ := o
  obtain ⟨pa, pc, wa, wc, rfl, hP, hWt, hpc, -, hv1, hv2⟩ := ho
  simp only at *
  obtain ⟨W, hW⟩ : ∃ W, W = (w.alloc (.cells #[.slice a l.length n] 24)).alloc (.cells #[.bool lpo, .slice pa prec.length pc, .slice wa wts.length wc, .int .i64 var] 27) := ⟨_, rfl⟩
  have hx : Ext w W := by subst hW; go_grown
  have k0 : W.cell? ⟨w.heap.size, 0, none⟩ = some (.slice a l.length n) := by subst hW; go_simp
  have j0 : W.cell? ⟨w.heap.size + 1, 0, none⟩ = some (.bool lpo) := by subst hW; go_simp
  have j1 : W.cell? ⟨w.heap.size + 1, 1, none⟩ = some (.slice pa prec.length pc) := by subst hW; go_simp
  have j2 : W.cell? ⟨w.heap.size + 1, 2, none⟩ = some (.slice wa wts.length wc) := by subst hW; go_simp
  have j3 : W.cell? ⟨w.heap.size + 1, 3, none⟩ = some (.int .i64 var) := by subst hW; go_simp
  have hck := refSigCheck_any l hl W a n (hsy.ext hx)
  by_cases hz : sigCheck l = 0
  case neg =>
    have hzb : (sigCheck l != 0) = true := by simpa using hz
    have HF := Lib.hid (ordCheck_sig (lpo := lpo) (prec := prec) (wts := wts) (var := var) hz)
    have Hck := Lib.hid hck; clear hck hz hP hWt hsy
    go_enter Try.func9, Try.ntmps9
    go_wp2_with ((go_at_call 25; rw [← hW]; clear hW; refine (Hck.out).mono ?_; rintro e w1 ⟨rfl, hx1⟩; replace k0 := hx1.cell k0; replace j1 := hx1.cell j1))
    go_ret
    exact ⟨by rw [HF.out]; rfl, Ext.trans hx hx1⟩
  rw [hz] at hck
  have hra := fun w' (h : Ext W w') => refRanks_any prec l.length hpl hl w' pa pc (hP.ext (hx.trans h))
  generalize hRk : ranksB prec l.length = Rk at hra
  have HRK := Lib.hid hRk
  have hpr : Rk = true → prec.length = l.length := fun h => by
    rw [h] at hRk; unfold ranksB at hRk; exact (of_decide_eq_true hRk).1
  have Hpr := Lib.hid hpr
  have Hck := Lib.hid hck
  have Hra := Lib.hid hra
  have Hz := Lib.hid hz
  clear hck hra hRk hpr hz
  cases Rk with
  | false =>
    go_enter Try.func9, Try.ntmps9
    go_wp2_with (first
      | (go_at_call 25; rw [← hW]; clear hW; refine (Hck.out).mono ?_; rintro e w1 ⟨rfl, hx1⟩; replace k0 := hx1.cell k0; replace j1 := hx1.cell j1)
      | (go_at_call 26; refine (Hra.out _ hx1).mono ?_; rintro e w2 ⟨rfl, hx2⟩))
    go_ret
    exact ⟨by rw [ordCheck_ranks HRK.out]; rfl, (hx.trans hx1).trans hx2⟩
  | true =>
  go_enter Try.func9, Try.ntmps9
  go_upto_region 3 with (first
    | (go_at_call 25; rw [← hW]; clear hW; refine (Hck.out).mono ?_; rintro e w1 ⟨rfl, hx1⟩; replace k0 := hx1.cell k0; replace j1 := hx1.cell j1)
    | (go_at_call 26; refine (Hra.out _ hx1).mono ?_; rintro e V ⟨rfl, hx2⟩; (have hx12 := hx1.trans hx2); replace j0 := hx12.cell j0; replace j2 := hx12.cell j2; replace j3 := hx12.cell j3; replace k0 := hx2.cell k0; replace j1 := hx2.cell j1))
  have hE4 : Ext w V := hx.trans hx12
  have hl1 : 1 ≤ l.length := (sig_ok Hz.out).1
  have hl96 : l.length ≤ 96 := (sig_ok Hz.out).2.1
  have Hz := Lib.hid (And.intro Hz.out (Hpr.out (by first | rfl | trivial)))
  clear hx1 hx2 hx12 Hck Hra Hpr
  cases lpo with
  | true =>
    go_wp2_with fail
    go_ret
    exact ⟨by rw [ordCheck_lpo Hz.out.1 HRK.out]; rfl, hE4⟩
  | false =>
    obtain ⟨Hd, hHd⟩ : ∃ Hd : Bool, Hd = decide (wts.length ≠ l.length ∨ var < 1 ∨ 1000 < var ∨ (wts[0]?).getD 0 ≠ var) := ⟨_, rfl⟩
    go_upto_region 5 with fail
    go_cut [46] from 21 to 97 (fun c wx => c = .bool Hd ∧ Ext V wx)
    case first =>
      by_cases h1 : wts.length = l.length
      case neg =>
        have hb : ((wts.length : Int) != (l.length : Int)) = true := by rw [bne_iff_ne]; omega
        have hh : Hd = true := by rw [hHd]; exact decide_eq_true (.inl h1)
        subst hh
        clear h1 hHd
        go_quiet (fail)
        go_wp2_with fail
        go_meet
        exact ⟨rfl, Ext.drewN (Below.refl _ _) _⟩
      case pos =>
        have hb : ((wts.length : Int) != (l.length : Int)) = false := by rw [h1]; simp
        have hwp : 0 < wts.length := by omega
        have H1 := Lib.hid h1; clear h1
        obtain ⟨wb, wo, rfl, m0⟩ := hWt.look hwp
        have m0' : V.cell? ⟨wb, wo, none⟩ = some (.int .i64 wts[0]) := by simpa using hE4.cell m0
        have hg0 : (wts[0]?).getD 0 = wts[0] := by rw [List.getElem?_eq_getElem hwp]; rfl
        rw [hg0] at hHd
        clear hg0 m0
        generalize wts[0] = w0 at m0' hHd
        by_cases h2 : var < 1
        · have hb2 : decide (var < 1) = true := decide_eq_true h2
          have hh : Hd = true := by rw [hHd]; exact decide_eq_true (.inr (.inl h2))
          subst hh
          clear hHd h2
          go_quiet (fail)
          go_wp2_with fail
          go_meet
          exact ⟨rfl, Ext.drewN (Below.refl _ _) _⟩
        have hb2 : decide (var < 1) = false := decide_eq_false h2
        by_cases h3 : 1000 < var
        · have hb3 : decide (1000 < var) = true := decide_eq_true h3
          have hh : Hd = true := by rw [hHd]; exact decide_eq_true (.inr (.inr (.inl h3)))
          subst hh
          clear hHd h2 h3
          go_quiet (fail)
          go_wp2_with fail
          go_meet
          exact ⟨rfl, Ext.drewN (Below.refl _ _) _⟩
        have hb3 : decide (1000 < var) = false := decide_eq_false h3
        have hb4 : (w0 != var) = Hd := by
          rw [hHd, Bool.eq_iff_iff, bne_iff_ne, decide_eq_true_iff]
          exact ⟨fun h => .inr (.inr (.inr h)), fun h => (h.resolve_left (fun h' => h' H1.out)).resolve_left h2 |>.resolve_left h3⟩
        clear hHd h2 h3
        go_quiet (fail)
        go_wp2_with fail
        go_meet
        exact ⟨rfl, Ext.drewN (Below.refl _ _) _⟩
    case rest =>
      obtain ⟨rfl, hx5⟩ := hcut
      generalize wc = V2 at hx5 ⊢
      replace k0 := hx5.cell k0
      replace j1 := hx5.cell j1
      replace j2 := hx5.cell j2
      replace j3 := hx5.cell j3
      have hE5 := hE4.trans hx5
      clear j0 hx5 hE4
      cases Hd with
      | true =>
        have hh := of_decide_eq_true hHd.symm
        have HH := Lib.hid hh; clear hh hHd
        go_wp2_with fail
        go_ret
        exact ⟨by rw [ordCheck_head Hz.out.1 HRK.out HH.out]; rfl, hE5⟩
      | false =>
        have hh := of_decide_eq_false hHd.symm
        have hwl2 : wts.length = l.length := by
          by_cases h : wts.length = l.length
          · exact h
          · exact absurd (.inl h) hh
        have HH := Lib.hid (And.intro hh hwl2); clear hh hHd hwl2
        go_wp2_with fail
        go_loopw [5] (fun s wr => ∃ k : Nat, k ≤ l.length ∧ s = .int .i64 k ∧ (∀ j, j < k → weightB l prec wts var j = true) ∧ Ext V2 wr) (fun s _ => l.length - (intOf s).toNat)
        case atStart => exact ⟨0, Nat.zero_le _, rfl, fun j h => by omega, Below.refl _ _⟩
        case round =>
          obtain ⟨k, hkk, rfl, hok, hext⟩ := hrel
          have Hok := Lib.hid hok; clear hok
          have q0 := hext.cell k0
          have q1 := hext.cell j1
          have q2 := hext.cell j2
          have q3 := hext.cell j3
          by_cases hlt : k < l.length
          case neg =>
            have hk1 : ¬ (k : Int) < l.length := by omega
            have hke : k = l.length := by omega
            have Hke := Lib.hid hke; clear hke
            go_wp2_with fail
            go_ret
            refine ⟨?_, hE5.trans hext⟩
            rw [ordCheck_rest Hz.out.1 HRK.out HH.out.1, if_pos (weights_all (fun j hj => Hok.out j (by rw [Hke.out]; exact hj)))]; rfl
          have hk1 : (k : Int) < l.length := by omega
          have hkw : k < wts.length := by rw [HH.out.2]; exact hlt
          have hkp : k < prec.length := by rw [Hz.out.2]; exact hlt
          have hk2 : (k : Int) < wts.length := by omega
          obtain ⟨sb, so, rfl, -, -, sa, -⟩ := hsy.look hlt
          obtain ⟨wb, wo, rfl, m0⟩ := hWt.look hkw
          have hEr := hE5.trans hext
          replace sa := hEr.cell sa
          replace m0 := hEr.cell m0
          have Hhi := Lib.hid (fun w' (h : Ext w w') => refHigh_any prec k hkp (by omega) w' _ pc (hP.ext h))
          have HWB := Lib.hid (weight_at (prec := prec) (var := var) hlt hkw)
          generalize l[k].arity = ar at sa HWB
          generalize wts[k] = wv at m0 HWB
          generalize highB prec k = hb at Hhi HWB
          by_cases c1 : wv < 0
          · have d1 : decide (wv < 0) = true := decide_eq_true c1
            have hwf : weightB l prec wts var k = false := by rw [HWB.out, decide_eq_false (fun h => by omega)]; rfl
            have HF := Lib.hid hwf; clear hwf c1
            go_wp2_with fail
            go_ret
            refine ⟨?_, hEr⟩
            rw [ordCheck_rest Hz.out.1 HRK.out HH.out.1, if_neg (by rw [weights_not hlt HF.out]; simp)]; rfl
          have d1 : decide (wv < 0) = false := decide_eq_false c1
          by_cases c2 : 1000 < wv
          · have d2 : decide (1000 < wv) = true := decide_eq_true c2
            have hwf : weightB l prec wts var k = false := by rw [HWB.out, decide_eq_false (fun h => by omega)]; rfl
            have HF := Lib.hid hwf; clear hwf c1 c2
            go_wp2_with fail
            go_ret
            refine ⟨?_, hEr⟩
            rw [ordCheck_rest Hz.out.1 HRK.out HH.out.1, if_neg (by rw [weights_not hlt HF.out]; simp)]; rfl
          have d2 : decide (1000 < wv) = false := decide_eq_false c2
          by_cases c3 : ar = 0
          · have d3 : (ar == 0) = true := by rw [beq_iff_eq]; exact c3
            have d4 : (ar == 1) = false := by rw [beq_eq_false_iff_ne]; omega
            by_cases c4 : wv < var
            · have d5 : decide (wv < var) = true := decide_eq_true c4
              have hwf : weightB l prec wts var k = false := by rw [HWB.out, decide_eq_false (fun h => by have := h.2.2 c3; omega)]; rfl
              have HF := Lib.hid hwf; clear hwf c1 c2 c3 c4
              go_wp2_with fail
              go_ret
              refine ⟨?_, hEr⟩
              rw [ordCheck_rest Hz.out.1 HRK.out HH.out.1, if_neg (by rw [weights_not hlt HF.out]; simp)]; rfl
            · have d5 : decide (wv < var) = false := decide_eq_false c4
              have hwf : weightB l prec wts var k = true := by rw [HWB.out, decide_eq_true ⟨by omega, by omega, fun _ => by omega⟩, decide_eq_false (fun h => by omega)]; rfl
              have HF := Lib.hid hwf; clear hwf c1 c2 c3 c4
              go_wp2_with fail
              go_roundw
              case rel =>
                have hj1 : ∀ j, j < k + 1 → weightB l prec wts var j = true := fun j hj => by
                  rcases Nat.lt_or_ge j k with h | h
                  · exact Hok.out j h
                  · have : j = k := by omega
                    subst this; exact HF.out
                first | exact ⟨k + 1, by omega, by go_num, hj1, hext⟩ | ((repeat apply Exists.intro); exact ⟨⟨k + 1, by omega, by go_num, hj1, hext⟩, rfl⟩)
              case measure => simp [intOf]; omega
          have d3 : (ar == 0) = false := by rw [beq_eq_false_iff_ne]; exact c3
          by_cases c4 : ar = 1
          · have d4 : (ar == 1) = true := by rw [beq_iff_eq]; exact c4
            by_cases c5 : wv = 0
            · have d5 : (wv == 0) = true := by rw [beq_iff_eq]; exact c5
              have hwf : weightB l prec wts var k = hb := by rw [HWB.out, decide_eq_true ⟨by omega, by omega, fun h => by omega⟩, decide_eq_true ⟨c4, c5⟩]; simp
              have HF := Lib.hid hwf; clear hwf c1 c2 c3 c4 c5
              cases hb with
              | true =>
                go_wp2_with (go_at_call 27; refine (Hhi.out _ hEr).mono ?_; rintro e w6 ⟨rfl, hx6⟩)
                go_roundw
                case rel =>
                  have hj1 : ∀ j, j < k + 1 → weightB l prec wts var j = true := fun j hj => by
                    rcases Nat.lt_or_ge j k with h | h
                    · exact Hok.out j h
                    · have : j = k := by omega
                      subst this; exact HF.out
                  first | exact ⟨k + 1, by omega, by go_num, hj1, hext.trans hx6⟩ | ((repeat apply Exists.intro); exact ⟨⟨k + 1, by omega, by go_num, hj1, hext.trans hx6⟩, rfl⟩)
                case measure => simp [intOf]; omega
              | false =>
                go_wp2_with (go_at_call 27; refine (Hhi.out _ hEr).mono ?_; rintro e w6 ⟨rfl, hx6⟩)
                go_ret
                refine ⟨?_, hEr.trans hx6⟩
                rw [ordCheck_rest Hz.out.1 HRK.out HH.out.1, if_neg (by rw [weights_not hlt HF.out]; simp)]; rfl
            · have d5 : (wv == 0) = false := by rw [beq_eq_false_iff_ne]; exact c5
              have hwf : weightB l prec wts var k = true := by rw [HWB.out, decide_eq_true ⟨by omega, by omega, fun h => by omega⟩, decide_eq_false (fun h => c5 h.2)]; rfl
              have HF := Lib.hid hwf; clear hwf c1 c2 c3 c4 c5
              go_wp2_with fail
              go_roundw
              case rel =>
                have hj1 : ∀ j, j < k + 1 → weightB l prec wts var j = true := fun j hj => by
                  rcases Nat.lt_or_ge j k with h | h
                  · exact Hok.out j h
                  · have : j = k := by omega
                    subst this; exact HF.out
                first | exact ⟨k + 1, by omega, by go_num, hj1, hext⟩ | ((repeat apply Exists.intro); exact ⟨⟨k + 1, by omega, by go_num, hj1, hext⟩, rfl⟩)
              case measure => simp [intOf]; omega
          · have d4 : (ar == 1) = false := by rw [beq_eq_false_iff_ne]; exact c4
            have hwf : weightB l prec wts var k = true := by rw [HWB.out, decide_eq_true ⟨by omega, by omega, fun h => by omega⟩, decide_eq_false (fun h => c4 h.1)]; rfl
            have HF := Lib.hid hwf; clear hwf c1 c2 c3 c4
            go_wp2_with fail
            go_roundw
            case rel =>
              have hj1 : ∀ j, j < k + 1 → weightB l prec wts var j = true := fun j hj => by
                rcases Nat.lt_or_ge j k with h | h
                · exact Hok.out j h
                · have : j = k := by omega
                  subst this; exact HF.out
              first | exact ⟨k + 1, by omega, by go_num, hj1, hext⟩ | ((repeat apply Exists.intro); exact ⟨⟨k + 1, by omega, by go_num, hj1, hext⟩, rfl⟩)
            case measure => simp [intOf]; omega
end Go.Proofs.Ytdmiphdohfcbeaa
namespace Go.Proofs.Ytdmiphdohfcbeaa
open Go.ChangeShapes Go.WideShapes Go.ChangeAt Go.RowKit

theorem infoSym : (Try.prog.info? 57).map (fun i => (i.zero, i.size, i.bytes)) = some (some (.agg #[.string ⟨#[]⟩, .int .i64 0, .bool false]), 3, 32) := by kernel_rfl
def symCells (l : List Sy) : List (List Value) := l.map fun s => [.string s.name, .int .i64 s.arity, .bool s.pred]
theorem symCells_len {l : List Sy} : ∀ c ∈ symCells l, c.length = 3 := by
  intro c hc
  obtain ⟨s, -, rfl⟩ := List.mem_map.1 hc
  rfl
theorem symCells_flat {l : List Sy} : (symCells l).flatten.length = l.length * 3 := by
  induction l with
  | nil => rfl
  | cons s l ih =>
    have : symCells (s :: l) = [.string s.name, .int .i64 s.arity, .bool s.pred] :: symCells l := rfl
    rw [this, List.flatten_cons, List.length_append, ih, List.length_cons]
    simp; omega
theorem symCells_one {l : List Sy} : ∀ u ∈ (symCells l).flatten, u.oneCell' = true := by
  intro u hu
  obtain ⟨c, hc, hu⟩ := List.mem_flatten.1 hu
  obtain ⟨s, -, rfl⟩ := List.mem_map.1 hc
  simp at hu
  rcases hu with rfl | rfl | rfl <;> rfl
theorem symCells_at {l : List Sy} {j : Nat} (hj : j < l.length) {i : Nat} (hi : i < 3) : (symCells l).flatten[j * 3 + i]? = ([.string l[j].name, .int .i64 l[j].arity, .bool l[j].pred] : List Value)[i]? := by
  have hj' : j < (symCells l).length := by simpa [symCells] using hj
  rw [flatten_at (n := 3) (symCells l) symCells_len j hj' i hi]
  simp [symCells]
theorem add_at (b o j : Nat) : (⟨b, o, none⟩ : Addr).add j = ⟨b, o + j, none⟩ := by unfold Addr.add; split <;> simp_all
theorem symCells_news {w : World} {b o : Nat} {l : List Sy} (h : IsSyms w (some ⟨b, o, none⟩) l) : ∀ j u, (symCells l).flatten[j]? = some u → w.cell? ((⟨b, o, none⟩ : Addr).add j) = some u := by
  intro j u hu
  have hlt : j < (symCells l).flatten.length := (List.getElem?_eq_some_iff.1 hu).1
  rw [symCells_flat] at hlt
  have hk : j / 3 < l.length := by omega
  have hm : j % 3 < 3 := by omega
  have hj : j = j / 3 * 3 + j % 3 := by omega
  obtain ⟨b', o', e, -, h1, h2, h3⟩ := h.look hk
  injection e with e; injection e with e1 e2; subst e1; subst e2
  rw [hj, symCells_at hk hm] at hu
  rw [add_at, hj]
  generalize j % 3 = m at hm hu ⊢
  have : m = 0 ∨ m = 1 ∨ m = 2 := by omega
  rcases this with rfl | rfl | rfl
  · injection hu with hu; subst hu; rw [← Nat.add_assoc]; exact h1
  · injection hu with hu; subst hu; rw [← Nat.add_assoc]; exact h2
  · injection hu with hu; subst hu; rw [← Nat.add_assoc]; exact h3
theorem syms_of_own {w : World} {B : Nat} {g cap : Nat} {l : List Sy} (hok : ∀ i (h : i < l.length), Sy.ok l[i]) (h : w.ownsRow B 57 3 (.slice (some ⟨g, 0, none⟩) l.length cap) l.length (symCells l).flatten) : IsSyms w (some ⟨g, 0, none⟩) l := by
  intro i hi
  have hc := fun m (hm : m < 3) u (hu : ([.string l[i].name, .int .i64 l[i].arity, .bool l[i].pred] : List Value)[m]? = some u) => h.cells (g := g) rfl (i * 3 + m) u (by rw [symCells_at hi hm]; exact hu)
  refine ⟨hok i hi, g, 0, rfl, ?_, ?_, ?_⟩
  · have := hc 0 (by omega) _ rfl; rw [add_at] at this; exact this
  · have := hc 1 (by omega) _ rfl; rw [add_at] at this; exact this
  · have := hc 2 (by omega) _ rfl; rw [add_at] at this; exact this

theorem wpList_append_run {P : Program} {ops : Array Oper} {rest : List Oper} {o : Oper} {a : Act} {w w' : World} {Q : Exit → Act → World → Prop} {v sv xv : Value} (hgd : o.guard = none) (s x : Operand) (t : TypeId) (ho : o.op = .call { callee := .builtin .append, args := #[s, x], argTypes := #[t, t] })
    (hs : a.eval s = sv) (hx : a.eval x = xv) (hrun : (Builtin.append_ #[t, t] o.type #[sv, xv]).run P w = .ok v w') (hK : wpList P ops Q rest (a.put o.dst v) w') : wpList P ops Q (o :: rest) a w :=
  wpList_plain hgd fun _ hK' => by
    unfold Oper.wp execOp
    simp only [ho, resolve, invoke, builtin, Sem.run_bind, Sem.run_pure, Result.andThen_ok, List.map_toArray, List.map_cons, List.map_nil, hs, hx, hrun]
    exact hK' _ _ hK
set_option maxRecDepth 100000 in
theorem append_nil_run (w : World) (a : Option Addr) (n : Nat) : (Builtin.append_ #[22, 22] 22 #[.slice none 0 0, .slice a 0 n]).run Try.prog w = .ok (.slice none 0 0) w := by
  cases a <;> rfl

set_option maxHeartbeats 1000000 in
set_option maxRecDepth 100000 in
theorem sigCopy_any (l : List Sy) (hl : l.length ≤ 1048576) (w : World) (a : Option Addr) (n : Nat) (hln : l.length ≤ n) (hn63 : n ≤ 9223372036854775807) (hsy : IsSyms w a l) :
    Calls Try.prog 8 #[.agg #[.slice a l.length n]] w fun e w' => (∃ a' n', e = .returned (.agg #[.slice a' l.length n']) ∧ l.length ≤ n' ∧ n' ≤ 9223372036854775807 ∧ IsSyms w' a' l) ∧ Ext w w' := by
  obtain ⟨i0, hi0, hz0, hz1, hz2⟩ := info_parts infoSym
  obtain ⟨W, hW⟩ : ∃ W, W = ((w.alloc (.cells #[.slice a l.length n] 24)).alloc (.cells #[.slice none 0 0] 24)).alloc (.cells #[.slice none 0 0] 24) := ⟨_, rfl⟩
  have hx : Ext w W := by subst hW; go_grown
  have hsz : W.heap.size = w.heap.size + 3 := by subst hW; simp
  have k0 : W.cell? ⟨w.heap.size, 0, none⟩ = some (.slice a l.length n) := by subst hW; go_simp
  have k1 : W.cell? ⟨w.heap.size + 1, 0, none⟩ = some (.slice none 0 0) := by subst hW; go_simp
  have f1 : W.frozen? ⟨w.heap.size + 1, 0, none⟩ = false := by subst hW; go_simp
  have k2 : W.cell? ⟨w.heap.size + 1 + 1, 0, none⟩ = some (.slice none 0 0) := by subst hW; go_simp
  have f2 : W.frozen? ⟨w.heap.size + 1 + 1, 0, none⟩ = false := by subst hW; go_simp
  have hok : ∀ i (h : i < l.length), Sy.ok l[i] := fun i hi => (hsy i hi).1
  by_cases h0 : l.length = 0
  · have hn : l = [] := List.length_eq_zero_iff.1 h0
    subst hn
    simp only [List.length_nil] at *
    go_enter Try.func8, Try.ntmps8
    go_wp2_with (at_builtin; rw [← hW]; clear hW; refine wpList_append_run rfl _ _ 22 rfl rfl rfl (append_nil_run W a n) ?_)
    obtain ⟨V, hV⟩ : ∃ V, V = (W.setCell ⟨w.heap.size + 1 + 1, 0, none⟩ (.slice none 0 0)).setCell ⟨w.heap.size + 1, 0, none⟩ (.slice none 0 0) := ⟨_, rfl⟩
    have hch : Chg [w.heap.size + 1, w.heap.size + 1 + 1] W V := by rw [hV]; exact ((Chg.refl _ _).setCell (p := ⟨w.heap.size + 1 + 1, 0, none⟩) _ (.inl (by simp))).setCell (p := ⟨w.heap.size + 1, 0, none⟩) _ (.inl (by simp))
    have c1 : V.cell? ⟨w.heap.size + 1, 0, none⟩ = some (.slice none 0 0) := by
      rw [hV]; exact World.cell?_setCell_same (u := .slice none 0 0) _ _ _ (by rw [World.cell?_setCell_other _ _ _ _ (by simp)]; exact k1)
    rw [← hV]
    refine bodyPost_ret (v := .agg #[.slice none 0 0]) (by simp [results, Try.results8, go_sem, c1]) rfl ?_
    exact ⟨⟨none, 0, rfl, by simp, by omega, fun i hi => by simp at hi⟩, Chg.ext hx hch (by simp; omega)⟩
  have hpos : 0 < l.length := by omega
  obtain ⟨b, o, rfl, -⟩ := hsy.look hpos
  have Hnews := Lib.hid (symCells_news (hsy.ext hx))
  have Hown := Lib.hid (World.ownsRow_nil W w.heap.size 57 3)
  have HOK := Lib.hid hok
  clear hok h0
  go_enter Try.func8, Try.ntmps8
  go_wp2_with (at_builtin; rw [← hW]; clear hW; refine wpList_append_lies _ rfl _ _ 22 rfl w.heap.size 57 i0 _ 3 32 Try.underlying22 hi0 hz0 hz1 hz2 rfl (by decide) (.slice none 0 0) 0 [] rfl Hown.out ⟨b, o, none⟩ l.length n (symCells l).flatten rfl symCells_flat Hnews.out symCells_one hpos (by simp only [maxLen]; omega) (by omega) (by omega) _ rfl ?_; intro g cap w1 hown hgrow hat hlt; rw [Nat.zero_add] at *; rw [List.nil_append] at hown; (have hxw : Ext W w1 := Chg.ext (Below.refl _ W) (Chg.of_grown (S := []) hgrow (fun g h => by cases h)) (by simp)); (have hg : g = w.heap.size + 3 := by rcases hat with h | h; cases h; omega); clear hat hgrow; replace f1 := hxw.frozen k1 f1; replace k1 := hxw.cell k1; replace f2 := hxw.frozen k2 f2; replace k2 := hxw.cell k2; (have HO := Lib.hid (And.intro hown hg)); clear hown hg)
  obtain ⟨V, hV⟩ : ∃ V, V = (w1.setCell ⟨w.heap.size + 1 + 1, 0, none⟩ (.slice (some ⟨g, 0, none⟩) l.length cap)).setCell ⟨w.heap.size + 1, 0, none⟩ (.slice (some ⟨g, 0, none⟩) l.length cap) := ⟨_, rfl⟩
  have hch : Chg [w.heap.size + 1, w.heap.size + 1 + 1] w1 V := by rw [hV]; exact ((Chg.refl _ _).setCell (p := ⟨w.heap.size + 1 + 1, 0, none⟩) _ (.inl (by simp))).setCell (p := ⟨w.heap.size + 1, 0, none⟩) _ (.inl (by simp))
  have c1 : V.cell? ⟨w.heap.size + 1, 0, none⟩ = some (.slice (some ⟨g, 0, none⟩) l.length cap) := by
    rw [hV]; exact World.cell?_setCell_same (u := .slice none 0 0) _ _ _ (by rw [World.cell?_setCell_other _ _ _ _ (by simp)]; exact k1)
  obtain ⟨hown, hg⟩ := HO.out
  have hI : IsSyms V (some ⟨g, 0, none⟩) l := syms_of_own HOK.out (own_keep hown fun g' hg' hlt' => hch.block g' hlt' (by injection hg' with hg'; simp only at hg'; simp; omega))
  have hcap : l.length ≤ cap ∧ cap ≤ 9223372036854775807 := by
    rcases hown.2 with ⟨h1, -⟩ | ⟨g', cap', cur, hv, -, -, hr, hm, -⟩
    · cases h1
    · injection hv with e1 e2 e3; subst e3; exact ⟨hr, by simp only [maxLen] at hm; omega⟩
  rw [← hV]
  refine bodyPost_ret (v := .agg #[.slice (some ⟨g, 0, none⟩) l.length cap]) (by simp [results, Try.results8, go_sem, c1]) rfl ?_
  exact ⟨⟨_, _, rfl, hcap.1, hcap.2, hI⟩, Chg.ext (hx.trans hxw) hch (by simp; omega)⟩
end Go.Proofs.Ytdmiphdohfcbeaa
