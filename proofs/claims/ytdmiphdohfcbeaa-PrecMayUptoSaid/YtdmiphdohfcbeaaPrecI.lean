/- The iterator over the symbols of clauses' terms. Conditions: sizes fit.
The iterator over the symbols of clauses. Conditions: sizes fit.
What prec.Counts returns. Conditions: at most 100 clauses; lengths and sizes fit.
What prec.Counts returns where something may not be. Conditions: at most 100 clauses; lengths and sizes fit. -/
import Derived.Test.YtdmiphdohfcbeaaPrecV
namespace Go.Proofs.Ytdmiphdohfcbeaa
open Go.ChangeShapes Go.WideShapes Go.ChangeAt Go.RowKit
attribute [local go_sem] fw_round fw_depth fw_fn Oper.semAt_some

/-- what lay in W0 lies in W, and none of it in blocks of S -/
def Kept (W0 : World) (S : List Nat) (W : World) : Prop := ∀ p v, W0.cell? p = some v → W.cell? p = some v ∧ p.block ∉ S
theorem Kept.mv {W0 w w' : World} {S S' : List Nat} (h : Kept W0 S w) (hm : Mv S w S' w') : Kept W0 S' w' := fun p v hp => by
  obtain ⟨h1, h2⟩ := h p v hp
  exact ⟨hm.cell h1 h2, hm.out h1 h2⟩
theorem Kept.ext {W0 w w' : World} {S : List Nat} (h : Kept W0 S w) (hx : Ext w w') : Kept W0 S w' := h.mv (Mv.of_ext hx)
theorem Kept.cell {W0 w : World} {S : List Nat} (h : Kept W0 S w) {p : Addr} {v : Value} (hp : W0.cell? p = some v) : w.cell? p = some v := (h p v hp).1
theorem Kept.cls {W0 w : World} {S : List Nat} (h : Kept W0 S w) {x s : Value} {t : Tm} (ht : IsTm W0 x s t) : IsTm w x s t := ht.of_cells fun _ _ hp => h.cell hp
def PostC {α : Type} (J : Bool → World → List α → List Nat → Prop) (S : List Nat) (w : World) (pre L : List α) (e : Ending) (w' : World) : Prop := ∃ b, e = .returned (.bool b) ∧ PostR J S w pre L b w'
theorem symsL_at {ks : List Tm} {k : Nat} (h : k < ks.length) : Tm.symsL ks = Tm.symsL (ks.take k) ++ (ks[k].syms ++ Tm.symsL (ks.drop (k + 1))) := by
  rw [symsL_split ks k, symsL_drop h]

section
variable {l : Nat} {J : Bool → World → List Int → List Nat → Prop} {items : List Int}
set_option maxHeartbeats 4000000 in
set_option maxRecDepth 100000 in
theorem symsDown_any (hJ : ∀ b w w' t S, J b w t S → Ext w w' → J b w' t S) (hR : Rounds l GivesI items J) (W0 : World) (t : Tm) :
    ∀ (w : World) (pre rest : List Int) (S : List Nat) (x s : Value) (yb db m : Nat), t.size ≤ 2097152 → IsTm W0 x s t → Kept W0 S w →
      w.cell? ⟨yb, 0, none⟩ = some (.func (.yield l) #[] #[]) → yb ∉ S → w.cell? ⟨db, 0, none⟩ = some (.func (.func 58) #[] #[.pointer (some ⟨yb, 0, none⟩), .pointer (some ⟨db, 0, none⟩)]) → db ∉ S →
      items = pre ++ (t.syms ++ rest) → J true w pre S → (∀ b ∈ S, b < w.heap.size) →
      CallsIn (Fw none) m Try.prog 58 #[.agg #[x, s], .pointer (some ⟨yb, 0, none⟩), .pointer (some ⟨db, 0, none⟩)] w (PostC J S w pre t.syms) := by
  induction t using Tm.ind with
  | h f ks ih =>
    intro w pre rest S x s yb db m hsz ht hK hy hyS hd hdS hitems hj hS
    simp only [IsTm] at ht
    obtain ⟨rfl, hf1, hf2, a, c, rfl, hc, hk⟩ := ht
    have Hih := Lib.hid ih; clear ih
    simp only [Tm.size] at hsz
    have hkl := length_le_sizes ks
    obtain ⟨W, hW⟩ : ∃ W, W = w.alloc (.cells #[.int .i64 f, .slice a ks.length c] 62) := ⟨_, rfl⟩
    have hx : Ext w W := by subst hW; go_grown
    have hsW : W.heap.size = w.heap.size + 1 := by subst hW; simp
    have k0 : W.cell? ⟨w.heap.size, 0, none⟩ = some (.int .i64 f) := by subst hW; go_simp
    have k1 : W.cell? ⟨w.heap.size, 1, none⟩ = some (.slice a ks.length c) := by subst hW; go_simp
    have hyW := hx.cell hy
    have hdW := hx.cell hd
    have hbS : w.heap.size ∉ S := fun h => by have := hS _ h; omega
    have hsyms : (Tm.mk f ks).syms = (if 0 ≤ f then [f] else []) ++ Tm.symsL ks := syms_cons
    by_cases hf : 0 ≤ f
    · rw [if_pos hf] at hsyms
      rw [hsyms] at hitems ⊢
      have Hit := Lib.hid hitems; clear hitems hsyms
      obtain ⟨fn, tmps, assign, body, hyd, hRd⟩ := hR pre f (Tm.symsL ks ++ rest) (by rw [Hit.out]; simp) #[.int .i64 f] W S ⟨rfl, hf1, hf2⟩ (hJ _ _ _ _ _ hj hx) (m - 1)
      have hfd : decide (0 ≤ f) = true := decide_eq_true hf
      rw [hW] at hyd hRd
      have hyw := hyW
      rw [hW] at hyw
      clear hj
      refine callsIn_of_wp Try.func58 rfl trivial ?_ rfl
      simp only [Try.ntmps58, List.size_toArray, List.length_cons, List.length_nil, Nat.reduceAdd, Nat.reduceSub, Array.replicate_succ, Array.replicate_zero, List.push_toArray, List.append_toArray, List.nil_append, List.cons_append]
      gi_wp2
      refine hRd.mono ?_
      clear hRd hyd
      rintro e w6 ⟨b1, S6, rfl, hmv, hj6⟩
      have hmv : Mv S W S6 w6 := by rw [hW]; exact hmv
      clear hW
      cases b1 with
      | false =>
        have Hpost := Lib.hid (show PostC J S w pre ([f] ++ Tm.symsL ks) (.returned (.bool false)) w6 from ⟨false, rfl, S6, Mv.ext_left hx hmv, .inr ⟨rfl, [f], ⟨Tm.symsL ks, rfl⟩, hj6⟩⟩)
        clear hj6
        gi_wp2
        go_ret
        exact Hpost.out
      | true =>
        have q1 := hmv.cell k1 hbS
        have hm0 := Mv.ext_left hx hmv
        gi_wp2
        gi_loopw [20] (fun i wr => ∃ (k : Nat) (S' : List Nat), k ≤ ks.length ∧ i = .int .i64 k ∧ Mv S w S' wr ∧ J true wr (pre ++ ([f] ++ Tm.symsL (ks.take k))) S') (fun i _ => ks.length - (intOf i).toNat)
        case atStart => exact ⟨0, S6, Nat.zero_le _, rfl, hm0, by simpa [Tm.symsL] using hj6⟩
        case round =>
          obtain ⟨k, S', hkk, rfl, hmr, hjr⟩ := hrel
          clear q1 hj6 hm0 hyW hdW
          by_cases hlt : k < ks.length
          · have hKr := hK.mv hmr
            obtain ⟨b', o', a8, c8, rfl, e1, e2, e3⟩ := hk.look hlt
            have hk1 : (k : Int) < ks.length := by omega
            have y1 := hmr.cell hy hyS
            have d1 := hmr.cell hd hdS
            have y2 := hmr.out hy hyS
            have d2 := hmr.out hd hdS
            have g1 := hKr.cell e1
            have g2 := hKr.cell e2
            have hsz8 := size_le_sizes hlt
            obtain ⟨W8, hW8⟩ : ∃ W8, W8 = wr.alloc (.cells #[.int .i64 ks[k].f, .slice a8 ks[k].ks.length c8] 62) := ⟨_, rfl⟩
            have hx8 : Ext wr W8 := by subst hW8; exact ext_alloc _ _
            have d8 := hx8.cell d1
            have y8 := hx8.cell y1
            have Hi := Lib.hid (Hih.out _ (List.getElem_mem hlt) W8 (pre ++ ([f] ++ Tm.symsL (ks.take k))) (Tm.symsL (ks.drop (k + 1)) ++ rest) S' _ _ yb db (m - 1) (by omega) e3 (hKr.ext hx8) y8 y2 d8 d2
              (by rw [Hit.out, symsL_at hlt]; simp only [List.append_assoc]) (hJ _ _ _ _ _ hjr hx8) (fun b hb => Nat.lt_of_lt_of_le (hmr.lt hS b hb) hx8.size))
            have d9 := d8
            rw [hW8] at d9
            have Hall := Lib.hid (show [f] ++ Tm.symsL ks = ([f] ++ Tm.symsL (ks.take k)) ++ ks[k].syms ++ Tm.symsL (ks.drop (k + 1)) by rw [symsL_at hlt]; simp only [List.append_assoc])
            have Htk := Lib.hid (symsL_take hlt)
            have HM := Lib.hid (hmr.ext_right hx8)
            clear hKr e3 hjr hk hy hd hyS hdS d8 y8 y1 y2 d2
            gi_wp2_with fail
            rw [← hW8]
            clear hW8 d9
            refine (Hi.out).mono ?_
            rintro e w9 ⟨b1, rfl, hp9⟩
            cases b1 with
            | false =>
              have Hpost := Lib.hid (show PostC J S w pre ([f] ++ Tm.symsL ks) (.returned (.bool false)) w9 from ⟨false, rfl, by rw [Hall.out]; exact PostR.stop HM.out hp9⟩)
              clear hp9
              gi_wp2
              go_ret
              exact Hpost.out
            | true =>
              obtain ⟨S9, hm9, hj9⟩ := hp9.yes
              have hj9' : J true w9 (pre ++ ([f] ++ Tm.symsL (ks.take (k + 1)))) S9 := by rw [Htk.out]; simpa only [List.append_assoc] using hj9
              clear hp9 hj9
              gi_wp2
              go_roundw
              case rel => exact ⟨k + 1, S9, by omega, by go_num, HM.out.trans hm9, hj9'⟩
              case measure => simp [intOf]; omega
          · have hk1 : ¬ (k : Int) < ks.length := by omega
            have hke : k = ks.length := by omega
            have Hpost := Lib.hid (show PostC J S w pre ([f] ++ Tm.symsL ks) (.returned (.bool true)) wr from ⟨true, rfl, PostR.mk hmr (by rw [hke, List.take_length] at hjr; exact hjr)⟩)
            clear hke
            gi_wp2
            go_ret
            exact Hpost.out
    · rw [if_neg hf, List.nil_append] at hsyms
      rw [hsyms] at hitems ⊢
      have Hit := Lib.hid hitems; clear hitems hsyms
      have hfd : decide (0 ≤ f) = false := decide_eq_false hf
      have hj6 := hJ _ _ _ _ _ hj hx
      clear hj
      refine callsIn_of_wp Try.func58 rfl trivial ?_ rfl
      simp only [Try.ntmps58, List.size_toArray, List.length_cons, List.length_nil, Nat.reduceAdd, Nat.reduceSub, Array.replicate_succ, Array.replicate_zero, List.push_toArray, List.append_toArray, List.nil_append, List.cons_append]
      have q1 := k1
      have hm0 : Mv S w S W := Mv.of_ext hx
      obtain ⟨S6, hS6⟩ : ∃ S6, S6 = S := ⟨_, rfl⟩
      rw [← hS6] at hj6
      have hm0 : Mv S w S6 W := by rw [hS6]; exact hm0
      clear hS6
      gi_wp2
      (try rw [← hW])
      clear hW
      gi_loopw [20] (fun i wr => ∃ (k : Nat) (S' : List Nat), k ≤ ks.length ∧ i = .int .i64 k ∧ Mv S w S' wr ∧ J true wr (pre ++ (Tm.symsL (ks.take k))) S') (fun i _ => ks.length - (intOf i).toNat)
      case atStart => exact ⟨0, S6, Nat.zero_le _, rfl, hm0, by simpa [Tm.symsL] using hj6⟩
      case round =>
        obtain ⟨k, S', hkk, rfl, hmr, hjr⟩ := hrel
        clear q1 hj6 hm0 hyW hdW
        by_cases hlt : k < ks.length
        · have hKr := hK.mv hmr
          obtain ⟨b', o', a8, c8, rfl, e1, e2, e3⟩ := hk.look hlt
          have hk1 : (k : Int) < ks.length := by omega
          have y1 := hmr.cell hy hyS
          have d1 := hmr.cell hd hdS
          have y2 := hmr.out hy hyS
          have d2 := hmr.out hd hdS
          have g1 := hKr.cell e1
          have g2 := hKr.cell e2
          have hsz8 := size_le_sizes hlt
          obtain ⟨W8, hW8⟩ : ∃ W8, W8 = wr.alloc (.cells #[.int .i64 ks[k].f, .slice a8 ks[k].ks.length c8] 62) := ⟨_, rfl⟩
          have hx8 : Ext wr W8 := by subst hW8; exact ext_alloc _ _
          have d8 := hx8.cell d1
          have y8 := hx8.cell y1
          have Hi := Lib.hid (Hih.out _ (List.getElem_mem hlt) W8 (pre ++ (Tm.symsL (ks.take k))) (Tm.symsL (ks.drop (k + 1)) ++ rest) S' _ _ yb db (m - 1) (by omega) e3 (hKr.ext hx8) y8 y2 d8 d2
            (by rw [Hit.out, symsL_at hlt]; simp only [List.append_assoc]) (hJ _ _ _ _ _ hjr hx8) (fun b hb => Nat.lt_of_lt_of_le (hmr.lt hS b hb) hx8.size))
          have d9 := d8
          rw [hW8] at d9
          have Hall := Lib.hid (show Tm.symsL ks = (Tm.symsL (ks.take k)) ++ ks[k].syms ++ Tm.symsL (ks.drop (k + 1)) by rw [symsL_at hlt]; simp only [List.append_assoc])
          have Htk := Lib.hid (symsL_take hlt)
          have HM := Lib.hid (hmr.ext_right hx8)
          clear hKr e3 hjr hk hy hd hyS hdS d8 y8 y1 y2 d2
          gi_wp2_with fail
          rw [← hW8]
          clear hW8 d9
          refine (Hi.out).mono ?_
          rintro e w9 ⟨b1, rfl, hp9⟩
          cases b1 with
          | false =>
            have Hpost := Lib.hid (show PostC J S w pre (Tm.symsL ks) (.returned (.bool false)) w9 from ⟨false, rfl, by rw [Hall.out]; exact PostR.stop HM.out hp9⟩)
            clear hp9
            gi_wp2
            go_ret
            exact Hpost.out
          | true =>
            obtain ⟨S9, hm9, hj9⟩ := hp9.yes
            have hj9' : J true w9 (pre ++ (Tm.symsL (ks.take (k + 1)))) S9 := by rw [Htk.out]; simpa only [List.append_assoc] using hj9
            clear hp9 hj9
            gi_wp2
            go_roundw
            case rel => exact ⟨k + 1, S9, by omega, by go_num, HM.out.trans hm9, hj9'⟩
            case measure => simp [intOf]; omega
        · have hk1 : ¬ (k : Int) < ks.length := by omega
          have hke : k = ks.length := by omega
          have Hpost := Lib.hid (show PostC J S w pre (Tm.symsL ks) (.returned (.bool true)) wr from ⟨true, rfl, PostR.mk hmr (by rw [hke, List.take_length] at hjr; exact hjr)⟩)
          clear hke
          gi_wp2
          go_ret
          exact Hpost.out
end
end Go.Proofs.Ytdmiphdohfcbeaa
namespace Go.Proofs.Ytdmiphdohfcbeaa
open Go.ChangeShapes Go.WideShapes Go.ChangeAt Go.RowKit
attribute [local go_sem] fw_round fw_depth fw_fn Oper.semAt_some undef

theorem clSyms_at {c : List Lt} {k : Nat} (h : k < c.length) : clSyms c = clSyms (c.take k) ++ (c[k].syms ++ clSyms (c.drop (k + 1))) := by
  have e : c = c.take k ++ (c[k] :: c.drop (k + 1)) := by rw [← List.drop_eq_getElem_cons h, List.take_append_drop]
  conv => lhs; rw [e]
  unfold clSyms
  rw [List.flatMap_append, List.flatMap_cons]
theorem allSyms_at {cs : List (List Lt)} {i : Nat} (hi : i < cs.length) {k : Nat} (h : k < cs[i].length) : ∃ R, allSyms cs = (allSyms (cs.take i) ++ clSyms (cs[i].take k)) ++ (cs[i][k].syms ++ R) := by
  have e : cs = cs.take i ++ (cs[i] :: cs.drop (i + 1)) := by rw [← List.drop_eq_getElem_cons hi, List.take_append_drop]
  refine ⟨clSyms (cs[i].drop (k + 1)) ++ allSyms (cs.drop (i + 1)), ?_⟩
  conv => lhs; rw [e]
  unfold allSyms
  rw [List.flatMap_append, List.flatMap_cons, clSyms_at h]
  simp only [List.append_assoc]

set_option maxHeartbeats 4000000 in
set_option maxRecDepth 100000 in
theorem symbols1_ok (cs : List (List Lt)) (hcl : cs.length ≤ 100) (hcs : sizedCls cs) (lb : Nat) : IterOK 57 #[.pointer (some ⟨lb, 0, none⟩)] (allSyms cs) GivesI
    (fun S W => ∃ W0 a c, Kept W0 S W ∧ W.cell? ⟨lb, 0, none⟩ = some (.slice a cs.length c) ∧ IsCls W0 a cs) := by
  intro y J W S0 hD hlt hj hJ hR m
  obtain ⟨W0, a, c, hK, c0, hc⟩ := hD
  obtain ⟨W3, hW3⟩ : ∃ W3, W3 = (W.alloc (.cells #[.func (.yield y) #[] #[]] 80)).alloc (.cells #[.func (.func 58) #[] #[.pointer (some ⟨W.heap.size, 0, none⟩), .pointer (some ⟨W.heap.size + 1, 0, none⟩)]] 91) := ⟨_, rfl⟩
  have hx3 : Ext W W3 := by subst hW3; go_grown
  have y3 : W3.cell? ⟨W.heap.size, 0, none⟩ = some (.func (.yield y) #[] #[]) := by subst hW3; go_simp
  have d3 : W3.cell? ⟨W.heap.size + 1, 0, none⟩ = some (.func (.func 58) #[] #[.pointer (some ⟨W.heap.size, 0, none⟩), .pointer (some ⟨W.heap.size + 1, 0, none⟩)]) := by subst hW3; go_simp
  have hyS : W.heap.size ∉ S0 := fun h => by have := hlt _ h; omega
  have hdS : W.heap.size + 1 ∉ S0 := fun h => by have := hlt _ h; omega
  have hs3 : W3.heap.size = W.heap.size + 2 := by subst hW3; simp
  have hK3 := hK.ext hx3
  have cW := hx3.cell c0
  have hj3 := hJ _ _ _ _ _ hj hx3
  have hlt3 : ∀ b ∈ S0, b < W3.heap.size := fun b hb => Nat.lt_of_lt_of_le (hlt b hb) hx3.size
  have HSY := Lib.hid (fun (t : Tm) => symsDown_any (l := y) (J := J) (items := allSyms cs) hJ hR W0 t)
  rw [hW3] at cW
  clear hj hK
  refine callsIn_of_wp Try.func57 rfl trivial ?_ rfl
  simp only [Try.ntmps57, List.size_toArray, List.length_cons, List.length_nil, Nat.reduceAdd, Nat.reduceSub, Array.replicate_succ, Array.replicate_zero, List.push_toArray, List.append_toArray, List.nil_append, List.cons_append]
  gi_wp2
  rw [← hW3]
  clear hW3 cW
  gi_loopw [11] (fun s wr => ∃ (i : Nat) (S' : List Nat), i ≤ cs.length ∧ s = .int .i64 i ∧ Mv S0 W3 S' wr ∧ J true wr (allSyms (cs.take i)) S') (fun s _ => cs.length - (intOf s).toNat)
  case atStart => exact ⟨0, S0, Nat.zero_le _, rfl, Mv.refl _ _, by simpa [allSyms] using hj3⟩
  case round =>
    obtain ⟨i, S1, hii, rfl, hm1, hj1⟩ := hrel
    by_cases hil : i < cs.length
    case neg =>
      have hi1 : ¬ (i : Int) < cs.length := by omega
      have hie : i = cs.length := by omega
      have Hpost := Lib.hid (show PostR J S0 W [] (allSyms cs) true wr from ⟨S1, Mv.ext_left hx3 hm1, .inl ⟨rfl, by rw [hie, List.take_length] at hj1; exact hj1⟩⟩)
      clear hie hj1
      gi_wp2
      go_returns
      first | exact ⟨⟨_, rfl⟩, _, Hpost.out⟩ | exact ⟨⟨_, rfl⟩, .inr Hpost.out⟩
    have hi1 : (i : Int) < cs.length := by omega
    obtain ⟨cb, co, la, ln, rfl, m0, -, hli⟩ := hc i hil
    have g0 := (hK3.mv hm1).cell m0
    obtain ⟨hcl1, hcs1⟩ := hcs i hil
    have HJ1 := Lib.hid hj1; clear hj1 hj3
    gi_wp2
    gi_loopw [17] (fun s wr => ∃ (k : Nat) (S' : List Nat), k ≤ cs[i].length ∧ s = .int .i64 k ∧ Mv S0 W3 S' wr ∧ J true wr (allSyms (cs.take i) ++ clSyms (cs[i].take k)) S') (fun s _ => cs[i].length - (intOf s).toNat)
    case atStart => exact ⟨0, S1, Nat.zero_le _, rfl, hm1, by simpa [clSyms] using HJ1.out⟩
    case round =>
      obtain ⟨k, S2, hkk, rfl, hm2, hj2⟩ := hrel
      by_cases hkl : k < cs[i].length
      case neg =>
        have hk1 : ¬ (k : Int) < cs[i].length := by omega
        have hke : k = cs[i].length := by omega
        rw [hke, List.take_length, ← allSyms_take hil] at hj2
        have HJ2 := Lib.hid hj2; clear hj2 hke
        gi_wp2
        go_roundw
        case rel => exact ⟨i + 1, S2, by omega, by go_num, hm2, HJ2.out⟩
        case measure => simp [intOf]; omega
      have hk1 : (k : Int) < cs[i].length := by omega
      have hK2 := hK3.mv hm2
      obtain ⟨lb', lo, xa, xc, ya, yc, rfl, p0, p1, p2, p3, p4, hX, hY⟩ := hli k hkl
      replace p0 := hK2.cell p0
      replace p1 := hK2.cell p1
      replace p2 := hK2.cell p2
      replace p3 := hK2.cell p3
      replace p4 := hK2.cell p4
      obtain ⟨hsz1, hsz2⟩ := hcs1 k hkl
      obtain ⟨R, hRest⟩ := allSyms_at hil hkl
      have HST := Lib.hid (clSyms_take hkl)
      obtain ⟨x, hxe⟩ : ∃ x, x = cs[i][k] := ⟨_, rfl⟩
      rw [← hxe] at p0 p1 p2 p3 p4 hX hY hsz1 hsz2 HST hRest
      clear hxe
      have HRest := Lib.hid hRest; clear hRest
      obtain ⟨A, hA⟩ : ∃ A, A = allSyms (cs.take i) ++ clSyms (cs[i].take k) := ⟨_, rfl⟩
      rw [← hA] at hj2 HRest
      have HA := Lib.hid hA; clear hA
      obtain ⟨W8, hW8⟩ : ∃ W8, W8 = wr.alloc (.cells #[.bool x.neg, .int .i64 x.l.f, .slice xa x.l.ks.length xc, .int .i64 x.r.f, .slice ya x.r.ks.length yc] 64) := ⟨_, rfl⟩
      have hx8 : Ext wr W8 := by rw [hW8]; exact ext_alloc _ _
      have q3 : W8.cell? ⟨wr.heap.size, 3, none⟩ = some (.int .i64 x.r.f) := by subst hW8; go_simp
      have q4 : W8.cell? ⟨wr.heap.size, 4, none⟩ = some (.slice ya x.r.ks.length yc) := by subst hW8; go_simp
      have hwS : wr.heap.size ∉ S2 := fun h => by have := hm2.lt hlt3 _ h; omega
      have hm8 : Mv S0 W3 S2 W8 := hm2.ext_right hx8
      have d8 := hm8.cell d3 hdS
      have d9 := d8
      rw [hW8] at d9
      have Hc1 := Lib.hid (HSY.out x.l W8 A ((if x.r.f = 0 then [] else x.r.syms) ++ R) S2 _ _ W.heap.size (W.heap.size + 1) (m - 1) hsz1 hX (hK2.ext hx8) (hm8.cell y3 hyS) (hm8.out y3 hyS) d8 (hm8.out d3 hdS) (by rw [HRest.out]; unfold Lt.syms; simp only [List.append_assoc]) (hJ _ _ _ _ _ hj2 hx8) (hm8.lt hlt3))
      have HM := Lib.hid (Mv.ext_left hx3 hm8)
      clear hj2
      gi_wp2_with fail
      rw [← hW8]
      clear hW8 d9
      refine (Hc1.out).mono ?_
      rintro e w9 ⟨b1, rfl, hp9⟩
      cases b1 with
      | false =>
        have Hpost := Lib.hid (show PostR J S0 W [] (allSyms cs) false w9 by
          rw [HRest.out]; unfold Lt.syms
          have := PostR.stop (pre := []) (N := (if x.r.f = 0 then [] else x.r.syms) ++ R) HM.out hp9
          simpa only [List.append_assoc] using this)
        clear hp9
        gi_wp2
        go_returns
        first | exact ⟨⟨_, rfl⟩, _, Hpost.out⟩ | exact ⟨⟨_, rfl⟩, .inr Hpost.out⟩
      | true =>
        obtain ⟨S9, hm9, hj9⟩ := hp9.yes
        clear hp9
        have r3 := hm9.cell q3 hwS
        have r4 := hm9.cell q4 hwS
        have hmA := hm8.trans hm9
        have dA := hmA.cell d3 hdS
        by_cases hr0 : x.r.f = 0
        · have hrb : (x.r.f != 0) = false := by simpa using hr0
          have HJ9 := Lib.hid (show J true w9 (A ++ x.syms) S9 by unfold Lt.syms; rw [if_pos hr0, List.append_nil]; exact hj9)
          have HMA := Lib.hid hmA
          clear hr0 hj9 dA hmA
          gi_wp2
          go_roundw
          case rel => first | (exact ⟨k + 1, S9, by omega, by go_num, HMA.out, by rw [HST.out, ← List.append_assoc, ← HA.out]; exact HJ9.out⟩) | ((repeat apply Exists.intro); exact ⟨⟨k + 1, S9, by omega, by go_num, HMA.out, by rw [HST.out, ← List.append_assoc, ← HA.out]; exact HJ9.out⟩, rfl⟩)
          case measure => simp [intOf]; omega
        · have hrb : (x.r.f != 0) = true := by simpa using hr0
          have hsy : x.syms = x.l.syms ++ x.r.syms := by unfold Lt.syms; rw [if_neg hr0]
          have Hsy := Lib.hid hsy; clear hsy hr0
          have Hc2 := Lib.hid (HSY.out x.r w9 (A ++ x.l.syms) R S9 _ _ W.heap.size (W.heap.size + 1) (m - 1) hsz2 hY ((hK2.ext hx8).mv hm9) (hmA.cell y3 hyS) (hmA.out y3 hyS) dA (hmA.out d3 hdS) (by rw [HRest.out, Hsy.out]; simp only [List.append_assoc]) hj9 (hmA.lt hlt3))
          have HMA := Lib.hid hmA
          have HM9 := Lib.hid (Mv.ext_left hx3 hmA)
          clear hj9 hmA
          gi_wp2_with fail
          refine (Hc2.out).mono ?_
          rintro e wB ⟨b2, rfl, hpB⟩
          cases b2 with
          | false =>
            have Hpost := Lib.hid (show PostR J S0 W [] (allSyms cs) false wB by
              rw [HRest.out, Hsy.out]
              have := PostR.stop (pre := []) (L := A ++ x.l.syms) (M := x.r.syms) (N := R) HM9.out hpB
              rw [show A ++ (x.l.syms ++ x.r.syms ++ R) = (A ++ x.l.syms) ++ x.r.syms ++ R by simp only [List.append_assoc]]
              exact this)
            clear hpB
            gi_wp2
            go_returns
            first | exact ⟨⟨_, rfl⟩, _, Hpost.out⟩ | exact ⟨⟨_, rfl⟩, .inr Hpost.out⟩
          | true =>
            obtain ⟨SB, hmB, hjB⟩ := hpB.yes
            have HJB := Lib.hid (show J true wB (A ++ x.syms) SB by rw [Hsy.out, ← List.append_assoc]; exact hjB)
            clear hpB hjB
            gi_wp2
            go_roundw
            case rel => first | (exact ⟨k + 1, SB, by omega, by go_num, HMA.out.trans hmB, by rw [HST.out, ← List.append_assoc, ← HA.out]; exact HJB.out⟩) | ((repeat apply Exists.intro); exact ⟨⟨k + 1, SB, by omega, by go_num, HMA.out.trans hmB, by rw [HST.out, ← List.append_assoc, ← HA.out]; exact HJB.out⟩, rfl⟩)
            case measure => simp [intOf]; omega
end Go.Proofs.Ytdmiphdohfcbeaa
namespace Go.Proofs.Ytdmiphdohfcbeaa
open Go.ChangeShapes Go.WideShapes Go.ChangeAt Go.RowKit
attribute [local go_sem] fw_round fw_depth fw_fn Oper.semAt_some

theorem leaves_mark {n : Nat} {fn : Func} {R : Ending → World → Prop} {a : Act} {W : World} {D : Nat} {v : Value} (hd : a.defers = [{ target := .collected D, args := #[] }]) (hK : W.heap[D]? = some (.deferred (some [])))
    (hr : (results fn a.tmps).run Try.prog (W.putObj D (.deferred none)) = .ok v (W.putObj D (.deferred none))) (hR : R (.returned v) (W.putObj D (.deferred none))) : bodyPostM (Fw none) n Try.prog fn R .ret a W := by
  show LeavesInM _ _ _ _ _ _ a.defers .returning W
  rw [hd]
  exact ⟨by simp, .inl ⟨_, _, rfl, run_takeDeferred hK, ⟨v, hr, hR⟩⟩⟩
theorem Chg.past {S T : List Nat} {a b c : World} (h : Chg S a b) (k : Chg T b c) (hT : ∀ i ∈ T, a.heap.size ≤ i) : Chg S a c :=
  ⟨k.os.trans h.os, k.tape.trans h.tape, k.output.trans h.output, Nat.le_trans h.size k.size, fun i hi hs => (k.block i (Nat.lt_of_lt_of_le hi h.size) (fun hm => by have := hT i hm; omega)).trans (h.block i hi hs)⟩
theorem kept_old {w w' : World} {S : List Nat} (hx : Ext w w') (hS : ∀ b ∈ S, w.heap.size ≤ b) : Kept w S w' := fun p v hp => ⟨hx.cell hp, fun hm => by have := hS _ hm; have := cell_lt hp; omega⟩
theorem litOk_true {l : List Sy} {x : Lt} : litOk l x = true ↔ termCheck l x.l = 0 ∧ termCheck l x.r = 0 := by unfold litOk; rw [decide_eq_true_iff]
theorem clsOk_get {l : List Sy} {cs : List (List Lt)} (h : clsOk l cs = true) {i : Nat} (hi : i < cs.length) {k : Nat} (hk : k < cs[i].length) : litOk l cs[i][k] = true :=
  List.all_eq_true.1 (List.all_eq_true.1 h _ (List.getElem_mem hi)) _ (List.getElem_mem hk)
theorem syms_pos : ∀ t : Tm, ∀ n : Nat, t.under n = true → ∀ x ∈ t.syms, 0 ≤ x ∧ x < (n : Int) := by
  intro t n
  refine Tm.rec (motive_1 := fun t => t.under n = true → ∀ x ∈ t.syms, 0 ≤ x ∧ x < (n : Int)) (motive_2 := fun ks => Tm.unders n ks = true → ∀ x ∈ Tm.symsL ks, 0 ≤ x ∧ x < (n : Int)) ?_ ?_ ?_ t
  · intro f ks ih h x hx
    simp only [Tm.under, Bool.and_eq_true, decide_eq_true_eq] at h
    rw [syms_cons] at hx
    rcases List.mem_append.1 hx with hx | hx
    · split at hx
      · simp at hx; subst hx; omega
      · cases hx
    · exact ih h.2 x hx
  · intro _ x hx; cases hx
  · intro t ts ih1 ih2 h x hx
    simp only [Tm.unders, Bool.and_eq_true] at h
    simp only [Tm.symsL] at hx
    rcases List.mem_append.1 hx with hx | hx
    · exact ih1 h.1 x hx
    · exact ih2 h.2 x hx
theorem allSyms_pos {l : List Sy} {cs : List (List Lt)} (h : clsOk l cs = true) : ∀ x ∈ allSyms cs, 0 ≤ x ∧ x < (l.length : Int) := by
  intro x hx
  unfold allSyms at hx
  obtain ⟨c, hc, hx⟩ := List.mem_flatMap.1 hx
  unfold clSyms at hx
  obtain ⟨y, hy, hx⟩ := List.mem_flatMap.1 hx
  have h2 := litOk_true.1 (List.all_eq_true.1 (List.all_eq_true.1 h c hc) y hy)
  unfold Lt.syms at hx
  rcases List.mem_append.1 hx with hx | hx
  · exact syms_pos _ _ (tc_under h2.1) x hx
  · split at hx
    · cases hx
    · exact syms_pos _ _ (tc_under h2.2) x hx

set_option maxHeartbeats 4000000 in
set_option maxRecDepth 100000 in
theorem counts_ok (l : List Sy) (hl : l.length ≤ 1048576) (cs : List (List Lt)) (hcl : cs.length ≤ 100) (hcs : sizedCls cs) (w : World) (a ca : Option Addr) (n cn : Nat) (hln : l.length ≤ n) (hn63 : n ≤ 9223372036854775807) (hsy : IsSyms w a l) (hc : IsCls w ca cs)
    (hok : countsErr l cs = 0) :
    Calls Try.prog 13 #[.agg #[.slice a l.length n], .slice ca cs.length cn] w fun e w' => (∃ v, e = .returned v ∧ CountsGiven w.heap.size w' v l cs) ∧ Ext w w' := by
  obtain ⟨hz, hco⟩ := counts_err hok
  have hA := ext_alloc w (.cells #[.slice a l.length n] 24)
  have hck := sigCheck_any l hl _ a n hln hn63 (hsy.ext hA)
  rw [hz] at hck
  have Hck := Lib.hid hck; clear hck
  have HOK := Lib.hid (And.intro hok (And.intro hz hco)); clear hok hz hco
  have hmk := fun w' => mk_ints l.length (by omega) w'
  have hc0 := (cells1 w (.slice a l.length n) 24)
  refine callsFw.1 (callsIn_of_wp_marks (n := 0) Try.func13 rfl trivial (wpIn_wide.2 ?_))
  simp only [Try.ntmps13, List.size_toArray, List.length_cons, List.length_nil, Nat.reduceAdd, Nat.reduceSub, Array.replicate_succ, Array.replicate_zero, List.push_toArray, List.append_toArray, List.nil_append, List.cons_append]
  go_wp2_with ((go_at_call 19; refine (Hck.out).mono ?_; rintro e w1 ⟨rfl, hx1⟩; have hc1 := hx1.cell hc0))
  have hw1 : Ext w w1 := Ext.trans hA hx1
  clear hx1 hA Hck
  go_loopw [17] (fun s wr => ∃ i : Nat, i ≤ cs.length ∧ s = .int .i64 i ∧ Ext w1 wr) (fun s _ => cs.length - (intOf s).toNat)
  case atStart => exact ⟨0, Nat.zero_le _, rfl, Below.refl _ _⟩
  case round =>
    obtain ⟨i, hii, rfl, hxi⟩ := hrel
    by_cases hlt : i < cs.length
    case pos =>
      have hi1 : (i : Int) < cs.length := by omega
      obtain ⟨cb, co, la, ln, rfl, m0, -, hli⟩ := hc i hlt
      obtain ⟨hcl1, hcs1⟩ := hcs i hlt
      have g1 := (hw1.trans hxi).cell m0
      go_wp2_with fail
      go_loopw [23] (fun s wr => ∃ k : Nat, k ≤ cs[i].length ∧ s = .int .i64 k ∧ Ext w1 wr) (fun s _ => cs[i].length - (intOf s).toNat)
      case atStart => exact ⟨0, Nat.zero_le _, rfl, hxi⟩
      case round =>
        obtain ⟨k, hkk, rfl, hxk⟩ := hrel
        by_cases hkl : k < cs[i].length
        case pos =>
          have hk1 : (k : Int) < cs[i].length := by omega
          have hextr := hw1.trans hxk
          obtain ⟨lb, lo, xa, xc, ya, yc, rfl, p0, p1, p2, p3, p4, hX, hY⟩ := hli k hkl
          replace p0 := hextr.cell p0
          replace p1 := hextr.cell p1
          replace p2 := hextr.cell p2
          replace p3 := hextr.cell p3
          replace p4 := hextr.cell p4
          obtain ⟨hsz1, hsz2⟩ := hcs1 k hkl
          obtain ⟨z1, z2⟩ := litOk_true.1 (clsOk_get HOK.out.2.2 hlt hkl)
          obtain ⟨x, hxe⟩ : ∃ x, x = cs[i][k] := ⟨_, rfl⟩
          rw [← hxe] at p0 p1 p2 p3 p4 hX hY hsz1 hsz2 z1 z2
          clear hxe
          obtain ⟨W3, hW3⟩ : ∃ W3, W3 = wr.alloc (.cells #[.bool x.neg, .int .i64 x.l.f, .slice xa x.l.ks.length xc, .int .i64 x.r.f, .slice ya x.r.ks.length yc] 64) := ⟨_, rfl⟩
          have hx3 : Ext wr W3 := by rw [hW3]; exact ext_alloc _ _
          have Ht1 := Lib.hid (fun w' (h : Ext wr w') => termCheck_any l hl x.l hsz1 w' a n hln hn63 (hsy.ext (Ext.trans hextr h)) _ _ (hX.ext (Ext.trans hextr h)))
          have Ht2 := Lib.hid (fun w' (h : Ext wr w') => termCheck_any l hl x.r hsz2 w' a n hln hn63 (hsy.ext (Ext.trans hextr h)) _ _ (hY.ext (Ext.trans hextr h)))
          rw [z1] at Ht1
          rw [z2] at Ht2
          have q0 := hx3.cell (hxk.cell hc1)
          have q3 : W3.cell? ⟨wr.heap.size, 3, none⟩ = some (.int .i64 x.r.f) := by subst hW3; go_simp
          have q4 : W3.cell? ⟨wr.heap.size, 4, none⟩ = some (.slice ya x.r.ks.length yc) := by subst hW3; go_simp
          have q0' := q0
          rw [hW3] at q0'
          clear z1 z2
          go_wp2_with (first
            | ((try rw [← hW3]); (try clear hW3); go_at_call 32; with_reducible refine (Ht1.out _ hx3).mono ?_; rintro e w4 ⟨rfl, hx4⟩; replace q0 := hx4.cell q0; replace q3 := hx4.cell q3; replace q4 := hx4.cell q4)
            | (go_at_call 32; with_reducible refine (Ht2.out _ (Ext.trans hx3 hx4)).mono ?_; rintro e w5 ⟨rfl, hx5⟩))
          go_roundw
          case rel => exact ⟨k + 1, by omega, by go_num, hxk.trans (hx3.trans (hx4.trans hx5))⟩
          case measure => simp [intOf]; omega
        case neg =>
          have hk1 : ¬ (k : Int) < cs[i].length := by omega
          go_wp2_with fail
          go_roundw
          case rel => exact ⟨i + 1, by omega, by go_num, hxk⟩
          case measure => simp [intOf]; omega
    case neg =>
      have hi1 : ¬ (i : Int) < cs.length := by omega
      have hb1 := hxi.cell hc1
      have hww : Ext w wr := hw1.trans hxi
      go_wp2_with go_in
      obtain ⟨V, hV⟩ : ∃ V, V = ((wr.alloc (.cells (madeCells #[.int .i64 0] l.length) 3)).alloc (.cells #[.slice (some ⟨wr.heap.size, 0, none⟩) l.length l.length] 25)).alloc (.cells #[.slice ca cs.length cn] 33) := ⟨_, rfl⟩
      have hxV : Ext wr V := by rw [hV]; exact ((ext_alloc _ _).trans (ext_alloc _ _)).trans (ext_alloc _ _)
      have hN0 : Nums V wr.heap.size (counts l.length []) := by rw [counts_nil, hV]; exact (Nums.made wr l.length).ext ((ext_alloc _ _).trans (ext_alloc _ _))
      have o1 : V.cell? ⟨wr.heap.size + 1, 0, none⟩ = some (.slice (some ⟨wr.heap.size, 0, none⟩) l.length l.length) := by
        rw [hV]
        refine (ext_alloc _ _).cell ?_
        simp
      have o2 : V.cell? ⟨wr.heap.size + 1 + 1, 0, none⟩ = some (.slice ca cs.length cn) := by
        have := cells1 ((wr.alloc (.cells (madeCells #[.int .i64 0] l.length) 3)).alloc (.cells #[.slice (some ⟨wr.heap.size, 0, none⟩) l.length l.length] 25)) (.slice ca cs.length cn) 33
        rw [hV]
        simpa using this
      have hsV : V.heap.size = wr.heap.size + 3 := by rw [hV]; simp
      have hwV := hww.trans hxV
      have hle := hww.size
      obtain ⟨nb, hnb⟩ : ∃ nb, nb = wr.heap.size := ⟨_, rfl⟩
      rw [← hnb] at hN0 o1 o2 hsV hle
      rw [← hV, ← hnb]
      have hnr : nb < V.heap.size := by omega
      clear hV hnb hc0 hmk hxV
      have HN0 := Lib.hid hN0; clear hN0
      refine (wpIn_wide (n := 0)).1 ?_
      refine wpIn_rangeFunc_run (n := 0) (gf := 57) (lb := #[.pointer (some ⟨nb + 1 + 1, 0, none⟩)]) (by rfl) (fun _ _ => rfl) (symbols1_ok cs hcl hcs (nb + 1 + 1)) (fun x args w h => by obtain ⟨rfl, -⟩ := h; rfl)
        [nb] (fun W pre S => S = [nb] ∧ Chg [nb] V W ∧ Nums W nb (counts l.length pre)) (fun _ _ _ _ => False) ?hD ?hS0 ?h0 ?hJ ?hJx ?hJe ?hJxe ?body ?done ?stop
      case hD =>
        intro w' hw'
        exact ⟨w, ca, cn, kept_old (hwV.trans hw') (by simp; omega), hw'.cell o2, hc⟩
      case hS0 => intro b hb; simp at hb; omega
      case h0 => exact ⟨rfl, Chg.refl _ _, HN0.out⟩
      case hJ => exact fun w1 w2 s S _ h k => ⟨h.1, h.2.1.past k (by simp), h.2.2.chg k (by simp; omega)⟩
      case hJx => exact fun _ _ _ _ _ _ h _ => h.elim
      case hJe => exact fun w1 w2 s S h k => ⟨h.1, h.2.1.trans (Chg.of_ext k), h.2.2.ext k⟩
      case hJxe => exact fun _ _ _ _ _ h _ => h.elim
      case stop => exact fun _ _ _ _ _ _ h _ => h.elim
      case done =>
        intro W S hm hj hK
        obtain ⟨-, hch, hN⟩ := hj
        have q1 := hch.cell o1 (by simp)
        have HN := Lib.hid hN; clear hN
        go_wp2_with fail
        have hD1 : V.heap.size < W.heap.size := (Array.getElem?_eq_some_iff.1 hK).1
        refine leaves_mark (v := .tuple #[.slice (some ⟨nb, 0, none⟩) l.length l.length, .int .i64 0]) rfl hK (by simp [results, Try.results13, go_sem]) ?_
        have hch2 := chg_putObj W V.heap.size (.deferred none)
        refine ⟨⟨_, rfl, .inr ⟨HOK.out.1, nb, by omega, by simp; omega, rfl, HN.out.chg hch2 (by simp; omega)⟩⟩, ?_⟩
        exact Chg.ext hwV ((hch.mono (T := [nb, V.heap.size]) (by simp)).trans (hch2.mono (by simp))) (by simp; omega)
      case body =>
        intro pre x rest hitems args W S mm hG hj hSne hVl
        obtain ⟨rfl, -, -⟩ := hG
        obtain ⟨rfl, hch, hN⟩ := hj
        have hxp := allSyms_pos HOK.out.2.2 x (by rw [hitems]; simp)
        obtain ⟨f, rfl⟩ : ∃ f : Nat, x = f := ⟨x.toNat, by omega⟩
        have hfl : f < l.length := by omega
        have hfi : (f : Int) < l.length := by omega
        have hpl : pre.length ≤ 1000000000000000 := by
          have h1 := allSyms_length cs hcs
          have h2 : (allSyms cs).length = pre.length + (rest.length + 1) := by rw [hitems]; simp
          omega
        clear hitems
        gi_wp2
        intro V2 hc2 hcell2
        refine ⟨Mv.refl _ _, ?_⟩
        have q1 := hcell2 _ _ (hch.cell o1 (by simp))
        have hN2 := hN.chg hc2 (by simp; omega)
        obtain ⟨m1, m2⟩ := hN2.cell f (by rw [counts_length]; exact hfl)
        rw [count_at hfl] at m1
        have hlen := List.count_le_length (a := (f : Int)) (l := pre)
        have hwr : IntKind.i64.wrap (((pre.count (f : Int) : Nat) : Int) + 1) = ((pre.count (f : Int) : Nat) : Int) + 1 := IntWalk.i64_in _ (by omega)
        have hNset := hN2.set f (((pre.count (f : Int) : Nat) : Int) + 1)
        rw [← counts_snoc hfl] at hNset
        generalize hcz : ((pre.count (f : Int) : Nat) : Int) = cz at m1 hwr hNset
        clear hcz hlen
        have HNS := Lib.hid hNset; clear hNset hN hN2
        have HCH := Lib.hid (hch.past hc2 (by simp)); clear hch hc2 hcell2
        gi_wp2
        have hset : Chg [nb] V2 (V2.setCell ⟨nb, f, none⟩ (.int .i64 (cz + 1))) := (Chg.refl _ _).setCell (p := ⟨nb, f, none⟩) _ (.inl (by simp))
        exact ⟨[nb], Mv.of_chg hset, rfl, HCH.out.trans hset, HNS.out⟩
end Go.Proofs.Ytdmiphdohfcbeaa
namespace Go.Proofs.Ytdmiphdohfcbeaa
open Go.ChangeShapes Go.WideShapes Go.ChangeAt Go.RowKit

set_option maxHeartbeats 4000000 in
set_option maxRecDepth 100000 in
theorem counts_any (l : List Sy) (hl : l.length ≤ 1048576) (cs : List (List Lt)) (hcl : cs.length ≤ 100) (hcs : sizedCls cs) (w : World) (a ca : Option Addr) (n cn : Nat) (hln : l.length ≤ n) (hn63 : n ≤ 9223372036854775807) (hsy : IsSyms w a l) (hc : IsCls w ca cs) :
    Calls Try.prog 13 #[.agg #[.slice a l.length n], .slice ca cs.length cn] w fun e w' => (∃ v, e = .returned v ∧ CountsGiven w.heap.size w' v l cs) ∧ Ext w w' := by
  by_cases hok : countsErr l cs = 0
  · exact counts_ok l hl cs hcl hcs w a ca n cn hln hn63 hsy hc hok
  have h2 : countsErr l cs = 2 := by
    unfold countsErr at hok ⊢
    split
    · rename_i h; rw [if_pos h] at hok; exact absurd rfl hok
    · rfl
  have HE := Lib.hid h2
  clear h2
  have hA := ext_alloc w (.cells #[.slice a l.length n] 24)
  have hck := sigCheck_any l hl _ a n hln hn63 (hsy.ext hA)
  by_cases hz : sigCheck l = 0
  case neg =>
    have hzb : (sigCheck l != 0) = true := by simpa using hz
    have Hck := Lib.hid hck; clear hck hz
    go_enter Try.func13, Try.ntmps13
    go_wp2_with ((go_at_call 19; refine (Hck.out).mono ?_; rintro e w1 ⟨rfl, hx1⟩))
    refine bodyPost_ret (v := .tuple #[.slice none 0 0, .int .i64 2]) (by simp [results, Try.results13, go_sem]) rfl ?_
    exact ⟨⟨_, rfl, .inl ⟨HE.out, rfl⟩⟩, Ext.trans hA hx1⟩
  have hnot : ¬ clsOk l cs = true := fun h => hok (by unfold countsErr; rw [if_pos ⟨hz, h⟩])
  have HNOT := Lib.hid hnot; clear hnot hok
  rw [hz] at hck
  have Hck := Lib.hid hck; clear hck hz
  have hc0 := (cells1 w (.slice a l.length n) 24)
  go_enter Try.func13, Try.ntmps13
  go_wp2_with ((go_at_call 19; refine (Hck.out).mono ?_; rintro e w1 ⟨rfl, hx1⟩; have hc1 := hx1.cell hc0))
  have hw1 : Ext w w1 := Ext.trans hA hx1
  clear hx1 hA Hck
  go_loopw [17] (fun s wr => ∃ i : Nat, i ≤ cs.length ∧ s = .int .i64 i ∧ (∀ j (hj : j < cs.length), j < i → ∀ k (hk : k < cs[j].length), litOk l cs[j][k] = true) ∧ Ext w1 wr) (fun s _ => cs.length - (intOf s).toNat)
  case atStart => exact ⟨0, Nat.zero_le _, rfl, fun j _ h => by omega, Below.refl _ _⟩
  case round =>
    obtain ⟨i, hii, rfl, hok1, hxi⟩ := hrel
    have Hok := Lib.hid hok1; clear hok1
    by_cases hlt : i < cs.length
    case neg => exact absurd (clsOk_true fun j hj => Hok.out j hj (by omega)) HNOT.out
    have hi1 : (i : Int) < cs.length := by omega
    obtain ⟨cb, co, la, ln, rfl, m0, -, hli⟩ := hc i hlt
    obtain ⟨hcl1, hcs1⟩ := hcs i hlt
    have g1 := (hw1.trans hxi).cell m0
    go_wp2_with fail
    go_loopw [23] (fun s wr => ∃ k : Nat, k ≤ cs[i].length ∧ s = .int .i64 k ∧ (∀ j (hj : j < cs[i].length), j < k → litOk l cs[i][j] = true) ∧ Ext w1 wr) (fun s _ => cs[i].length - (intOf s).toNat)
    case atStart => exact ⟨0, Nat.zero_le _, rfl, fun j _ h => by omega, hxi⟩
    case round =>
      obtain ⟨k, hkk, rfl, hok2, hxk⟩ := hrel
      have Hok2 := Lib.hid hok2; clear hok2
      by_cases hkl : k < cs[i].length
      case neg =>
        have hk1 : ¬ (k : Int) < cs[i].length := by omega
        go_wp2_with fail
        go_roundw
        case rel => exact ⟨i + 1, by omega, by go_num, fun j hj hji => by
          by_cases hji' : j < i
          · exact Hok.out j hj hji'
          · obtain rfl : j = i := by omega
            exact fun k hk => Hok2.out k hk (by omega), hxk⟩
        case measure => simp [intOf]; omega
      have hk1 : (k : Int) < cs[i].length := by omega
      have hextr := hw1.trans hxk
      obtain ⟨lb, lo, xa, xc, ya, yc, rfl, p0, p1, p2, p3, p4, hX, hY⟩ := hli k hkl
      replace p0 := hextr.cell p0
      replace p1 := hextr.cell p1
      replace p2 := hextr.cell p2
      replace p3 := hextr.cell p3
      replace p4 := hextr.cell p4
      obtain ⟨hsz1, hsz2⟩ := hcs1 k hkl
      obtain ⟨x, hxe⟩ : ∃ x, x = cs[i][k] := ⟨_, rfl⟩
      rw [← hxe] at p0 p1 p2 p3 p4 hX hY hsz1 hsz2
      have Hxe := Lib.hid hxe; clear hxe
      obtain ⟨W3, hW3⟩ : ∃ W3, W3 = wr.alloc (.cells #[.bool x.neg, .int .i64 x.l.f, .slice xa x.l.ks.length xc, .int .i64 x.r.f, .slice ya x.r.ks.length yc] 64) := ⟨_, rfl⟩
      have hx3 : Ext wr W3 := by rw [hW3]; exact ext_alloc _ _
      have Ht1 := Lib.hid (fun w' (h : Ext wr w') => termCheck_any l hl x.l hsz1 w' a n hln hn63 (hsy.ext (Ext.trans hextr h)) _ _ (hX.ext (Ext.trans hextr h)))
      have Ht2 := Lib.hid (fun w' (h : Ext wr w') => termCheck_any l hl x.r hsz2 w' a n hln hn63 (hsy.ext (Ext.trans hextr h)) _ _ (hY.ext (Ext.trans hextr h)))
      have q0 := hx3.cell (hxk.cell hc1)
      have q3 : W3.cell? ⟨wr.heap.size, 3, none⟩ = some (.int .i64 x.r.f) := by subst hW3; go_simp
      have q4 : W3.cell? ⟨wr.heap.size, 4, none⟩ = some (.slice ya x.r.ks.length yc) := by subst hW3; go_simp
      have q0' := q0
      rw [hW3] at q0'
      rcases tc_cases l x.l with z1 | z1
      case inr =>
        rw [z1] at Ht1
        have HZ := Lib.hid z1; clear z1
        go_wp2_with (first
          | ((try rw [← hW3]); (try clear hW3); go_at_call 32; with_reducible refine (Ht1.out _ hx3).mono ?_; rintro e w4 ⟨rfl, hx4⟩))
        refine bodyPost_ret (v := .tuple #[.slice none 0 0, .int .i64 2]) (by simp [results, Try.results13, go_sem]) rfl ?_
        exact ⟨⟨_, rfl, .inl ⟨HE.out, rfl⟩⟩, Ext.trans hextr (Ext.trans hx3 hx4)⟩
      rw [z1] at Ht1
      rcases tc_cases l x.r with z2 | z2
      case inr =>
        rw [z2] at Ht2
        have HZ := Lib.hid (And.intro z1 z2); clear z1 z2
        go_wp2_with (first
          | ((try rw [← hW3]); (try clear hW3); go_at_call 32; with_reducible refine (Ht1.out _ hx3).mono ?_; rintro e w4 ⟨rfl, hx4⟩; replace q0 := hx4.cell q0; replace q3 := hx4.cell q3; replace q4 := hx4.cell q4)
          | (go_at_call 32; with_reducible refine (Ht2.out _ (Ext.trans hx3 hx4)).mono ?_; rintro e w5 ⟨rfl, hx5⟩))
        refine bodyPost_ret (v := .tuple #[.slice none 0 0, .int .i64 2]) (by simp [results, Try.results13, go_sem]) rfl ?_
        exact ⟨⟨_, rfl, .inl ⟨HE.out, rfl⟩⟩, Ext.trans hextr (Ext.trans hx3 (Ext.trans hx4 hx5))⟩
      rw [z2] at Ht2
      have HZ := Lib.hid (And.intro z1 z2); clear z1 z2
      go_wp2_with (first
        | ((try rw [← hW3]); (try clear hW3); go_at_call 32; with_reducible refine (Ht1.out _ hx3).mono ?_; rintro e w4 ⟨rfl, hx4⟩; replace q0 := hx4.cell q0; replace q3 := hx4.cell q3; replace q4 := hx4.cell q4)
        | (go_at_call 32; with_reducible refine (Ht2.out _ (Ext.trans hx3 hx4)).mono ?_; rintro e w5 ⟨rfl, hx5⟩))
      go_roundw
      case rel => exact ⟨k + 1, by omega, by go_num, fun j hj hjk => by
        by_cases hjk' : j < k
        · exact Hok2.out j hj hjk'
        · obtain rfl : j = k := by omega
          rw [litOk_true, ← Hxe.out]; exact HZ.out, hxk.trans (hx3.trans (hx4.trans hx5))⟩
      case measure => simp [intOf]; omega
end Go.Proofs.Ytdmiphdohfcbeaa
