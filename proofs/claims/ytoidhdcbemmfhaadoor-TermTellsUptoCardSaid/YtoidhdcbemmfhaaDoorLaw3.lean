/- The law TermTells over a signature and two terms that are read from memory. -/
import Derived.Test.YtoidhdcbemmfhaaDoorInj
import Derived.Test.YtoidhdcbemmfhaaDoorWakes
namespace Go.Proofs.YtoidhdcbemmfhaaDoor
open Go.ChangeShapes Go.WideShapes Go.ChangeAt Go.RowKit

set_option maxHeartbeats 1000000 in
set_option maxRecDepth 100000 in
theorem termTells_any (l : List Sy) (hl : l.length ≤ 1048576) (t u : Tm) (hs : t.size ≤ 2097152) (hs2 : u.size ≤ 2097152) (w : World) (a : Option Addr) (c : Nat) (hlc : l.length ≤ c) (hc63 : c ≤ 9223372036854775807) (hsy : IsSyms w a l) (x s y r : Value) (ht : IsTm w x s t) (hu : IsTm w y r u) :
    Calls Tryd.prog 5 #[.agg #[.slice a l.length c], .agg #[x, s], .agg #[y, r]] w fun e w' => e = .returned (.bool true) ∧ Ext w w' := by
  have hx : Ext w (((w.alloc (.cells #[.slice a l.length c] 24)).alloc (.cells #[x, s] 27)).alloc (.cells #[y, r] 27)) := by go_grown
  obtain ⟨W, hW⟩ : ∃ W, W = (((w.alloc (.cells #[.slice a l.length c] 24)).alloc (.cells #[x, s] 27)).alloc (.cells #[y, r] 27)) := ⟨_, rfl⟩
  rw [← hW] at hx
  have k0 : W.cell? ⟨w.heap.size, 0, none⟩ = some (.slice a l.length c) := by subst hW; go_simp
  have k2 : W.cell? ⟨w.heap.size + 1, 0, none⟩ = some x := by subst hW; go_simp
  have k3 : W.cell? ⟨w.heap.size + 1, 1, none⟩ = some s := by subst hW; go_simp
  have k4 : W.cell? ⟨w.heap.size + 1 + 1, 0, none⟩ = some y := by subst hW; go_simp
  have k5 : W.cell? ⟨w.heap.size + 1 + 1, 1, none⟩ = some r := by subst hW; go_simp
  have Hw := Lib.hid wakes_any
  have ht1 := fun w' (hx' : Ext W w') => text_any l hl t hs w' a c hlc hc63 (hsy.ext (Ext.trans hx hx')) _ _ (ht.ext (Ext.trans hx hx'))
  have ht2 := fun w' (hx' : Ext W w') => text_any l hl u hs2 w' a c hlc hc63 (hsy.ext (Ext.trans hx hx')) _ _ (hu.ext (Ext.trans hx hx'))
  have hsm := fun w' (hx' : Ext W w') => same_any t u w' _ _ _ _ (ht.ext (Ext.trans hx hx')) (hu.ext (Ext.trans hx hx')) hs hs2
  have H1 := Lib.hid ht1; clear ht1
  have H2 := Lib.hid ht2; clear ht2
  have Hs := Lib.hid hsm; clear hsm
  go_enter Tryd.func5, Tryd.ntmps5
  go_wp2_with fail
  rw [← hW]
  clear hW
  go_loopw [18] (fun i wr => ∃ k : Nat, k ≤ l.length ∧ i = .int .i64 k ∧ (∀ p q (hp : p < l.length) (hq : q < l.length), p < q → q < k → l[p].name ≠ l[q].name) ∧ Ext W wr) (fun i _ => l.length - (intOf i).toNat)
  case atStart => exact ⟨0, Nat.zero_le _, rfl, fun _ _ _ _ _ h => by omega, Below.refl _ _⟩
  case round =>
    obtain ⟨k, hkk, rfl, hdis, hext⟩ := hrel
    have Hdis := Lib.hid hdis; clear hdis
    have q0 := hext.cell k0
    by_cases hlt : k < l.length
    · have hk1 : (k : Int) < l.length := by omega
      obtain ⟨hok, b, o, rfl, m1, -⟩ := hsy k hlt
      have m1' := hext.cell (hx.cell m1)
      go_wp2_with fail
      go_loopw [22] (fun i wr => ∃ j : Nat, j ≤ k ∧ i = .int .i64 j ∧ (∀ p (hp : p < l.length), p < j → l[p].name ≠ l[k].name) ∧ Ext W wr) (fun i _ => k - (intOf i).toNat)
      case atStart => exact ⟨0, Nat.zero_le _, rfl, fun _ _ h => by omega, hext⟩
      case round =>
        obtain ⟨j, hjk, rfl, hne, hext2⟩ := hrel
        have Hne := Lib.hid hne; clear hne
        have p0 := hext2.cell k0
        have p1 := hext2.cell (hx.cell m1)
        by_cases hjl : j < k
        · have hj1 : (j : Int) < k := by omega
          have hj2 : (j : Int) < l.length := by omega
          obtain ⟨-, b', o', hbo, m2, -⟩ := hsy j (by omega)
          simp only [Option.some.injEq, Addr.mk.injEq, and_true] at hbo
          obtain ⟨rfl, rfl⟩ := hbo
          have p2 := hext2.cell (hx.cell m2)
          have e2 : Ext W wr.drew := Ext.drew hext2
          by_cases hnn : l[k].name = l[j].name
          · have hnb : (l[k].name.toList == l[j].name.toList) = true := by rw [hnn]; exact beq_self_eq_true _
            go_wp2_with fail
            go_quiet (fail)
            go_wp2_with ((go_at_call 16; with_reducible refine (Hw.out _).mono ?_; rintro e w2 ⟨rfl, hw2⟩))
            go_ret
            exact ⟨rfl, Ext.trans hx (Ext.trans (hext2.drewN _) hw2)⟩
          · go_wp2_with fail
            go_quiet (fail)
            go_wp2_with ((go_at_call 16; with_reducible refine (Hw.out _).mono ?_; rintro e w2 ⟨rfl, hw2⟩))
            · go_ret
              exact ⟨rfl, Ext.trans hx (Ext.trans (hext2.drewN _) hw2)⟩
            · go_roundw
              case rel =>
                refine ⟨j + 1, by omega, by go_num, ?_, hext2.drewN _⟩
                intro p hp hpj
                by_cases hpe : p = j
                · subst hpe
                  exact fun h => hnn h.symm
                · exact Hne.out p hp (by omega)
              case measure => simp [intOf]; omega
        · have hj1 : ¬ (j : Int) < k := by omega
          have hjk2 : j = k := by omega
          go_wp2_with fail
          go_roundw
          case rel =>
            refine ⟨k + 1, by omega, by go_num, ?_, hext2⟩
            intro p q hp hq hpq hqk
            by_cases hqe : q = k
            · subst hqe
              exact Hne.out p hp (by omega)
            · exact Hdis.out p q hp hq hpq (by omega)
          case measure => simp [intOf]; omega
    · have hk1 : ¬ (k : Int) < l.length := by omega
      have hd : ∀ i j (hi : i < l.length) (hj : j < l.length), l[i].name = l[j].name → i = j := by
        intro i j hi hj he
        rcases Nat.lt_trichotomy i j with h | h | h
        · exact absurd he (Hdis.out i j hi hj h (by omega))
        · exact h
        · exact absurd he.symm (Hdis.out j i hj hi h (by omega))
      have Hd := Lib.hid hd; clear hd
      have q2 := hext.cell k2
      have q3 := hext.cell k3
      rcases termCheck_cases l t with hz | hz <;> rcases termCheck_cases l u with hz2 | hz2
      · have H1' := H1.out; have H2' := H2.out
        rw [hz] at H1'; rw [hz2] at H2'
        have Hz := Lib.hid (And.intro hz hz2); clear hz hz2
        obtain ⟨T1, hT1⟩ : ∃ T, T = (⟨(termText l t).toArray⟩ : ByteArray) := ⟨_, rfl⟩
        obtain ⟨T2, hT2⟩ : ∃ T, T = (⟨(termText l u).toArray⟩ : ByteArray) := ⟨_, rfl⟩
        rw [← hT1] at H1'; rw [← hT2] at H2'
        have HT := Lib.hid (And.intro hT1 hT2); clear hT1 hT2
        clear H1 H2
        have H1 := Lib.hid H1'; have H2 := Lib.hid H2'; clear H1' H2'
        go_wp2_with (first
          | (go_at_call 12; with_reducible refine (H1.out _ hext).mono ?_; rintro e w1 ⟨rfl, hx1⟩
             have hE1 := Ext.trans hext hx1
             have d0 := hE1.cell k0
             have d4 := hE1.cell k4
             have d5 := hE1.cell k5)
          | (go_at_call 12; with_reducible refine (H2.out _ hE1).mono ?_; rintro e w2 ⟨rfl, hx2⟩
             have hE2 := Ext.trans hE1 hx2
             have d0' := hE2.cell k0))
        go_loopw [63] (fun i wr => ∃ m : Nat, m ≤ l.length ∧ i = .int .i64 m ∧ (∀ p (hp : p < l.length), p < m → ∀ r, l[p].name.data.toList = 88 :: r → r = []) ∧ Ext W wr) (fun i _ => l.length - (intOf i).toNat)
        case atStart => exact ⟨0, Nat.zero_le _, rfl, fun _ _ h => by omega, hE2⟩
        case round =>
          obtain ⟨m, hmm, rfl, hnx, hext3⟩ := hrel
          have Hnx := Lib.hid hnx; clear hnx
          have p0 := hext3.cell k0
          have p2 := hext3.cell k2
          have p3 := hext3.cell k3
          have p4 := hext3.cell k4
          have p5 := hext3.cell k5
          by_cases hml : m < l.length
          · have hm1 : (m : Int) < l.length := by omega
            obtain ⟨hok, b, o, rfl, m1, -⟩ := hsy m hml
            have m1' := hext3.cell (hx.cell m1)
            have hsz := hok.1
            by_cases hs1 : 1 < l[m].name.size
            · have hs2' : (1 : Int) < l[m].name.size := by omega
              go_wp2_with ((go_at_call 16; with_reducible refine (Hw.out _).mono ?_; rintro e w4 ⟨rfl, hx4⟩))
              · go_ret
                exact ⟨rfl, Ext.trans hx (Ext.trans hext3 hx4)⟩
              · have h88 := ‹((l[m].name[0].toNat : Int) == 88) = false›
                go_roundw
                case rel =>
                  refine ⟨m + 1, by omega, by go_num, ?_, hext3⟩
                  intro p hp hpm r hr
                  by_cases hpe : p = m
                  · subst hpe
                    exfalso
                    have h0 : l[p].name[0] = 88 := by
                      show l[p].name.data[0] = 88
                      rw [← Array.getElem_toList]
                      simp [hr]
                    rw [h0] at h88
                    simp at h88
                  · exact Hnx.out p hp (by omega) r hr
                case measure => simp [intOf]; omega
            · have hs2' : ¬ (1 : Int) < l[m].name.size := by omega
              go_wp2_with fail
              go_roundw
              case rel =>
                refine ⟨m + 1, by omega, by go_num, ?_, hext3⟩
                intro p hp hpm r hr
                by_cases hpe : p = m
                · subst hpe
                  have hlen := congrArg List.length hr
                  rw [Array.length_toList, List.length_cons] at hlen
                  have : l[p].name.data.size = l[p].name.size := rfl
                  exact List.length_eq_zero_iff.1 (by omega)
                · exact Hnx.out p hp (by omega) r hr
              case measure => simp [intOf]; omega
          · have hm1 : ¬ (m : Int) < l.length := by omega
            go_wp2_with (first
              | (go_at_call 18; with_reducible refine (Hs.out _ hext3).mono ?_; rintro e w3 ⟨rfl, hx3⟩)
              | (go_at_call 16; with_reducible refine (Hw.out _).mono ?_; rintro e w4 ⟨rfl, hx4⟩))
            · go_ret
              exact ⟨rfl, Ext.trans hx (Ext.trans hext3 (Ext.trans hx3 hx4))⟩
            · exfalso
              have hne := ‹¬ (T1.toList == T2.toList) = t.same u›
              apply hne
              have hml2 : m = l.length := by omega
              by_cases htu : t = u
              · have h1 := HT.out.1
                have h2 := HT.out.2
                rw [htu, ← h2] at h1
                rw [h1, htu, same_self]
                exact beq_self_eq_true _
              · have hsf : t.same u = false := by
                  cases h : t.same u with
                  | false => rfl
                  | true => exact absurd (same_eq t u h) htu
                rw [hsf, beq_eq_false_iff_ne]
                intro he
                apply htu
                have hT : T1 = T2 := by
                  rw [Go.ByteArray.toList_eq, Go.ByteArray.toList_eq] at he
                  exact bytes_inj he
                have z1 := Hz.out.1
                have z2 := Hz.out.2
                obtain ⟨-, y1, y2⟩ := termCheck_zero z1
                obtain ⟨-, y3, y4⟩ := termCheck_zero z2
                have hsg : sigCheck l = 0 := by
                  unfold termCheck at z1
                  split at z1
                  · rename_i h; exact h.1
                  · cases z1
                have htx : t.text l = u.text l := by
                  have e1 := HT.out.1
                  have e2 := HT.out.2
                  unfold termText at e1 e2
                  rw [if_pos z1] at e1
                  rw [if_pos z2] at e2
                  rw [e1, e2] at hT
                  have := congrArg (fun x : ByteArray => x.data.toList) hT
                  simpa using this
                exact (text_inj (words_sig hsg) Hd.out (fun s hs r hr => by
                  obtain ⟨i, hi, rfl⟩ := List.getElem_of_mem hs
                  exact Hnx.out i hi (by omega) r hr) t u true [] [] y1 y3 y2 y4 (.inl rfl) (.inl rfl) (by rw [htx])).1
      · have H1' := H1.out; have H2' := H2.out
        rw [hz] at H1'; rw [hz2] at H2'
        clear H1 H2 hz hz2
        have H1 := Lib.hid H1'; have H2 := Lib.hid H2'; clear H1' H2'
        go_wp2_with (first
          | (go_at_call 12; with_reducible refine (H1.out _ hext).mono ?_; rintro e w1 ⟨rfl, hx1⟩
             have hE1 := Ext.trans hext hx1
             have d0 := hE1.cell k0
             have d4 := hE1.cell k4
             have d5 := hE1.cell k5)
          | (go_at_call 12; with_reducible refine (H2.out _ hE1).mono ?_; rintro e w2 ⟨rfl, hx2⟩
             have hE2 := Ext.trans hE1 hx2)
          | (go_at_call 16; with_reducible refine (Hw.out _).mono ?_; rintro e w4 ⟨rfl, hx4⟩))
        go_ret
        exact ⟨rfl, Ext.trans hx (Ext.trans hE2 hx4)⟩
      · have H1' := H1.out; have H2' := H2.out
        rw [hz] at H1'; rw [hz2] at H2'
        clear H1 H2 hz hz2
        have H1 := Lib.hid H1'; have H2 := Lib.hid H2'; clear H1' H2'
        go_wp2_with (first
          | (go_at_call 12; with_reducible refine (H1.out _ hext).mono ?_; rintro e w1 ⟨rfl, hx1⟩
             have hE1 := Ext.trans hext hx1
             have d0 := hE1.cell k0
             have d4 := hE1.cell k4
             have d5 := hE1.cell k5)
          | (go_at_call 12; with_reducible refine (H2.out _ hE1).mono ?_; rintro e w2 ⟨rfl, hx2⟩
             have hE2 := Ext.trans hE1 hx2)
          | (go_at_call 16; with_reducible refine (Hw.out _).mono ?_; rintro e w4 ⟨rfl, hx4⟩))
        go_ret
        exact ⟨rfl, Ext.trans hx (Ext.trans hE2 hx4)⟩
      · have H1' := H1.out; have H2' := H2.out
        rw [hz] at H1'; rw [hz2] at H2'
        clear H1 H2 hz hz2
        have H1 := Lib.hid H1'; have H2 := Lib.hid H2'; clear H1' H2'
        go_wp2_with (first
          | (go_at_call 12; with_reducible refine (H1.out _ hext).mono ?_; rintro e w1 ⟨rfl, hx1⟩
             have hE1 := Ext.trans hext hx1
             have d0 := hE1.cell k0
             have d4 := hE1.cell k4
             have d5 := hE1.cell k5)
          | (go_at_call 12; with_reducible refine (H2.out _ hE1).mono ?_; rintro e w2 ⟨rfl, hx2⟩
             have hE2 := Ext.trans hE1 hx2)
          | (go_at_call 16; with_reducible refine (Hw.out _).mono ?_; rintro e w4 ⟨rfl, hx4⟩))
        go_ret
        exact ⟨rfl, Ext.trans hx (Ext.trans hE2 hx4)⟩
end Go.Proofs.YtoidhdcbemmfhaaDoor
