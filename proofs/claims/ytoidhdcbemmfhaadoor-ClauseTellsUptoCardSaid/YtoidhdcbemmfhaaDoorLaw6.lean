/- The law ClauseTells over a signature and two clauses that are read from memory. -/
import Derived.Test.YtoidhdcbemmfhaaDoorClInj
import Derived.Test.YtoidhdcbemmfhaaDoorCl8
import Derived.Test.YtoidhdcbemmfhaaDoorOpenCl
namespace Go.Proofs.YtoidhdcbemmfhaaDoor
open Go.ChangeShapes Go.WideShapes Go.ChangeAt Go.RowKit

theorem clauseCheck_cases (l : List Sy) (c : List Lt) : clauseCheck l c = 0 ∨ clauseCheck l c = 2 := by unfold clauseCheck; split <;> simp

set_option maxHeartbeats 2000000 in
set_option maxRecDepth 100000 in
theorem clauseTells_any (l : List Sy) (hl : l.length ≤ 1048576) (c d : List Lt) (hcs : ∀ x ∈ c, x.sized) (hcl : c.length ≤ 1048576) (hds : ∀ x ∈ d, x.sized) (hdl : d.length ≤ 1048576) (w : World) (a : Option Addr) (n : Nat) (hln : l.length ≤ n) (hn63 : n ≤ 9223372036854775807) (hsy : IsSyms w a l) (ca da : Option Addr) (cn dn : Nat) (hc : IsLits w ca c) (hd : IsLits w da d) :
    Calls Tryd.prog 8 #[.agg #[.slice a l.length n], .slice ca c.length cn, .slice da d.length dn] w fun e w' => e = .returned (.bool true) ∧ Ext w w' := by
  obtain ⟨W, hW⟩ : ∃ W, W = w.alloc (.cells #[.slice a l.length n] 24) := ⟨_, rfl⟩
  have hx : Ext w W := by subst hW; go_grown
  have k0 : W.cell? ⟨w.heap.size, 0, none⟩ = some (.slice a l.length n) := by subst hW; go_simp
  have Hw := Lib.hid wakes11_any
  have H1 := Lib.hid (fun w' (hx' : Ext W w') => clText_any l hl c hcs hcl w' a n hln hn63 (hsy.ext (hx.trans hx')) ca cn (hc.ext (hx.trans hx')))
  have H2 := Lib.hid (fun w' (hx' : Ext W w') => clText_any l hl d hds hdl w' a n hln hn63 (hsy.ext (hx.trans hx')) da dn (hd.ext (hx.trans hx')))
  have Hs := Lib.hid (fun w' (hx' : Ext W w') => clSame_any c d hcs hds hcl hdl w' ca da cn dn (hc.ext (hx.trans hx')) (hd.ext (hx.trans hx')))
  go_enter Tryd.func8, Tryd.ntmps8
  go_wp2_with fail
  rw [← hW]
  clear hW
  go_loopw [17] (fun i wr => ∃ k : Nat, k ≤ l.length ∧ i = .int .i64 k ∧ (∀ p q (hp : p < l.length) (hq : q < l.length), p < q → q < k → l[p].name ≠ l[q].name) ∧ (∀ p (hp : p < l.length), p < k → ∀ r, l[p].name.data.toList = 88 :: r → r = []) ∧ Ext W wr) (fun i _ => l.length - (intOf i).toNat)
  case atStart => exact ⟨0, Nat.zero_le _, rfl, fun _ _ _ _ _ h => by omega, fun _ _ h => by omega, Below.refl _ _⟩
  case round =>
    obtain ⟨k, hkk, rfl, hdis, hnx, hext⟩ := hrel
    have Hdis := Lib.hid hdis; clear hdis
    have Hnx := Lib.hid hnx; clear hnx
    have q0 := hext.cell k0
    by_cases hlt : k < l.length
    case pos =>
      have hk1 : (k : Int) < l.length := by omega
      obtain ⟨hok, b, o, rfl, m1, -⟩ := hsy k hlt
      have m1' := hext.cell (hx.cell m1)
      have hsz := hok.1
      by_cases hs1 : 1 < l[k].name.size
      · have hs2' : (1 : Int) < l[k].name.size := by omega
        cases h88 : ((l[k].name[0].toNat : Int) == 88)
        · have hX : ∀ r, l[k].name.data.toList = 88 :: r → r = [] := by
            intro r hr
            exfalso
            have h00 : 0 < l[k].name.data.size := by show 0 < l[k].name.size; omega
            have h0 : l[k].name[0] = 88 := by
              show l[k].name.data[0] = 88
              rw [← Array.getElem_toList]
              simp [hr]
            rw [h0] at h88
            simp at h88
          have HX := Lib.hid hX; clear hX
          go_wp2_with fail
          go_loopw [36] (fun i wr => ∃ j : Nat, j ≤ k ∧ i = .int .i64 j ∧ (∀ p (hp : p < l.length), p < j → l[p].name ≠ l[k].name) ∧ Ext W wr) (fun i _ => k - (intOf i).toNat)
          case atStart => exact ⟨0, Nat.zero_le _, rfl, fun _ _ h => by omega, hext⟩
          case round =>
            obtain ⟨j, hjk, rfl, hne, hext2⟩ := hrel
            have Hne := Lib.hid hne; clear hne
            have p0 := hext2.cell k0
            by_cases hjl : j < k
            · have hj1 : (j : Int) < k := by omega
              have hj2 : (j : Int) < l.length := by omega
              obtain ⟨-, b', o', hbo, m2, -⟩ := hsy j (by omega)
              simp only [Option.some.injEq, Addr.mk.injEq, and_true] at hbo
              obtain ⟨rfl, rfl⟩ := hbo
              have p2 := hext2.cell (hx.cell m2)
              by_cases hnn : l[k].name = l[j].name
              · have hnb : (l[k].name.toList == l[j].name.toList) = true := by rw [hnn]; exact beq_self_eq_true _
                go_wp2_with ((go_at_call 32; with_reducible refine (Hw.out _).mono ?_; rintro e w2 ⟨rfl, hw2⟩))
                go_ret
                exact ⟨rfl, Ext.trans hx (Ext.trans hext2 hw2)⟩
              · have hnb : (l[k].name.toList == l[j].name.toList) = false := by
                  rw [beq_eq_false_iff_ne]
                  intro he
                  rw [Go.ByteArray.toList_eq, Go.ByteArray.toList_eq] at he
                  exact hnn (bytes_inj he)
                go_wp2_with fail
                go_roundw
                case rel =>
                  refine ⟨j + 1, by omega, by go_num, ?_, hext2⟩
                  intro p hp hpj
                  by_cases hpe : p = j
                  · subst hpe
                    exact fun h => hnn h.symm
                  · exact Hne.out p hp (by omega)
                case measure => simp [intOf]; omega
            · have hj1 : ¬ (j : Int) < k := by omega
              have hjk2 : j = k := by omega
              go_wp2_with fail
              go_roundw
              case rel =>
                refine ⟨k + 1, by omega, by go_num, ?_, ?_, hext2⟩
                · intro p q hp hq hpq hqk
                  by_cases hqe : q = k
                  · subst hqe
                    exact Hne.out p hp (by omega)
                  · exact Hdis.out p q hp hq hpq (by omega)
                · intro p hp hpm r hr
                  by_cases hpe : p = k
                  · subst hpe
                    exact HX.out r hr
                  · exact Hnx.out p hp (by omega) r hr
              case measure => simp [intOf]; omega
        · go_wp2_with ((go_at_call 32; with_reducible refine (Hw.out _).mono ?_; rintro e w4 ⟨rfl, hx4⟩))
          go_ret
          exact ⟨rfl, Ext.trans hx (Ext.trans hext hx4)⟩
      · have hs2' : ¬ (1 : Int) < l[k].name.size := by omega
        have hX : ∀ r, l[k].name.data.toList = 88 :: r → r = [] := by
          intro r hr
          have hlen := congrArg List.length hr
          rw [Array.length_toList, List.length_cons] at hlen
          have : l[k].name.data.size = l[k].name.size := rfl
          exact List.length_eq_zero_iff.1 (by omega)
        have HX := Lib.hid hX; clear hX
        go_wp2_with fail
        go_loopw [36] (fun i wr => ∃ j : Nat, j ≤ k ∧ i = .int .i64 j ∧ (∀ p (hp : p < l.length), p < j → l[p].name ≠ l[k].name) ∧ Ext W wr) (fun i _ => k - (intOf i).toNat)
        case atStart => exact ⟨0, Nat.zero_le _, rfl, fun _ _ h => by omega, hext⟩
        case round =>
          obtain ⟨j, hjk, rfl, hne, hext2⟩ := hrel
          have Hne := Lib.hid hne; clear hne
          have p0 := hext2.cell k0
          by_cases hjl : j < k
          · have hj1 : (j : Int) < k := by omega
            have hj2 : (j : Int) < l.length := by omega
            obtain ⟨-, b', o', hbo, m2, -⟩ := hsy j (by omega)
            simp only [Option.some.injEq, Addr.mk.injEq, and_true] at hbo
            obtain ⟨rfl, rfl⟩ := hbo
            have p2 := hext2.cell (hx.cell m2)
            by_cases hnn : l[k].name = l[j].name
            · have hnb : (l[k].name.toList == l[j].name.toList) = true := by rw [hnn]; exact beq_self_eq_true _
              go_wp2_with ((go_at_call 32; with_reducible refine (Hw.out _).mono ?_; rintro e w2 ⟨rfl, hw2⟩))
              go_ret
              exact ⟨rfl, Ext.trans hx (Ext.trans hext2 hw2)⟩
            · have hnb : (l[k].name.toList == l[j].name.toList) = false := by
                rw [beq_eq_false_iff_ne]
                intro he
                rw [Go.ByteArray.toList_eq, Go.ByteArray.toList_eq] at he
                exact hnn (bytes_inj he)
              go_wp2_with fail
              go_roundw
              case rel =>
                refine ⟨j + 1, by omega, by go_num, ?_, hext2⟩
                intro p hp hpj
                by_cases hpe : p = j
                · subst hpe
                  exact fun h => hnn h.symm
                · exact Hne.out p hp (by omega)
              case measure => simp [intOf]; omega
          · have hj1 : ¬ (j : Int) < k := by omega
            have hjk2 : j = k := by omega
            go_wp2_with fail
            go_roundw
            case rel =>
              refine ⟨k + 1, by omega, by go_num, ?_, ?_, hext2⟩
              · intro p q hp hq hpq hqk
                by_cases hqe : q = k
                · subst hqe
                  exact Hne.out p hp (by omega)
                · exact Hdis.out p q hp hq hpq (by omega)
              · intro p hp hpm r hr
                by_cases hpe : p = k
                · subst hpe
                  exact HX.out r hr
                · exact Hnx.out p hp (by omega) r hr
            case measure => simp [intOf]; omega
    case neg =>
      have hk1 : ¬ (k : Int) < l.length := by omega
      have hdd : ∀ i j (hi : i < l.length) (hj : j < l.length), l[i].name = l[j].name → i = j := by
        intro i j hi hj he
        rcases Nat.lt_trichotomy i j with h | h | h
        · exact absurd he (Hdis.out i j hi hj h (by omega))
        · exact h
        · exact absurd he.symm (Hdis.out j i hj hi h (by omega))
      have hxx : ∀ s ∈ l, ∀ r, s.name.data.toList = 88 :: r → r = [] := fun s hs r hr => by
        obtain ⟨i, hi, rfl⟩ := List.getElem_of_mem hs
        exact Hnx.out i hi (by omega) r hr
      have hfin : clauseCheck l c = 0 → clauseCheck l d = 0 → ((str (clauseText l c)).toList == (str (clauseText l d)).toList) = sameCl c d := by
        intro z1 z2
        have hsg : sigCheck l = 0 := by unfold clauseCheck at z1; split at z1; (rename_i h; exact h.1); cases z1
        by_cases hcd : c = d
        · subst hcd
          rw [sameCl_self]; exact beq_self_eq_true _
        · have h1 : sameCl c d = false := by
            cases h : sameCl c d with
            | false => rfl
            | true => exact absurd (sameCl_eq h) hcd
          rw [h1, beq_eq_false_iff_ne]
          intro he
          apply hcd
          rw [Go.ByteArray.toList_eq, Go.ByteArray.toList_eq] at he
          exact clause_inj hsg hdd hxx z1 z2 (by simpa [str] using he)
      clear hdd hxx
      obtain ⟨T1, hT1⟩ : ∃ T, T = str (clauseText l c) := ⟨_, rfl⟩
      obtain ⟨T2, hT2⟩ : ∃ T, T = str (clauseText l d) := ⟨_, rfl⟩
      obtain ⟨Z1, hZ1⟩ : ∃ Z, Z = clauseCheck l c := ⟨_, rfl⟩
      obtain ⟨Z2, hZ2⟩ : ∃ Z, Z = clauseCheck l d := ⟨_, rfl⟩
      obtain ⟨S, hS⟩ : ∃ S, S = sameCl c d := ⟨_, rfl⟩
      have hz1 := clauseCheck_cases l c
      have hz2 := clauseCheck_cases l d
      rw [← hT1, ← hZ1] at H1
      rw [← hT2, ← hZ2] at H2
      rw [← hS] at Hs
      rw [← hT1, ← hT2, ← hZ1, ← hZ2, ← hS] at hfin
      rw [← hZ1] at hz1
      rw [← hZ2] at hz2
      clear hT1 hT2 hZ1 hZ2 hS
      rcases hz1 with rfl | rfl <;> rcases hz2 with rfl | rfl
      · have hfin' := hfin rfl rfl
        clear hfin
        have hE2 : ((T1.toList == T2.toList) == S) = true := by rw [hfin']; exact beq_self_eq_true _
        have HE := Lib.hid hfin'; clear hfin'
        go_wp2_with (first
          | (go_at_call 28; with_reducible refine (H1.out _ hext).mono ?_; rintro e w1 ⟨rfl, hx1⟩
             have hE1 := Ext.trans hext hx1
             have d0 := hE1.cell k0)
          | (go_at_call 28; with_reducible refine (H2.out _ hE1).mono ?_; rintro e w2 ⟨rfl, hx2⟩
             have hE2' := Ext.trans hE1 hx2)
          | (go_at_call 33; with_reducible refine (Hs.out _ hE2').mono ?_; rintro e w3 ⟨rfl, hx3⟩)
          | (go_at_call 32; with_reducible refine (Hw.out _).mono ?_; rintro e w4 ⟨rfl, hx4⟩))
        all_goals first
          | (go_ret; exact ⟨rfl, Ext.trans hx (Ext.trans hE2' (Ext.trans hx3 hx4))⟩)
          | (exfalso; first | exact (‹¬ (T1.toList == T2.toList) = S›) HE.out | skip)
      all_goals
        clear hfin
        go_wp2_with (first
          | (go_at_call 28; with_reducible refine (H1.out _ hext).mono ?_; rintro e w1 ⟨rfl, hx1⟩
             have hE1 := Ext.trans hext hx1
             have d0 := hE1.cell k0)
          | (go_at_call 28; with_reducible refine (H2.out _ hE1).mono ?_; rintro e w2 ⟨rfl, hx2⟩
             have hE2' := Ext.trans hE1 hx2)
          | (go_at_call 32; with_reducible refine (Hw.out _).mono ?_; rintro e w4 ⟨rfl, hx4⟩))
        go_ret
        exact ⟨rfl, Ext.trans hx (Ext.trans hE2' hx4)⟩
end Go.Proofs.YtoidhdcbemmfhaaDoor
