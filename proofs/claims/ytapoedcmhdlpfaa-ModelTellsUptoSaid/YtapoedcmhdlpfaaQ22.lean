/- The counter of the model layer: an iterator over all rows of elements; the row is the same one each time. Conditions: at most three elements, at most eight places.
The counter of the model layer hands out all rows. Conditions: at most three elements, at most eight places.
What holds of the model layer returns, given what clause.Vars returns. Conditions: an interpretation that may be, a clause that may be over the signature, at most eight variables.
What clause.Vars returns: a clause's variables, each once, rising. Condition: literals whose terms may be over the signature.
What Clause of the model layer returns. Conditions: at most 1048576 symbols, rows, numbers in a row, literals; terms of at most 2097152 parts.
The wake-up of law 31: its signature, its interpretation, its terms; what Term, Clause and Check say of them. No condition.
An interpretation copied into new memory: what model.copied does. Conditions: rows that are not empty; lengths fit. -/
import Derived.Test.YtapoedcmhdlpfaaQ18
import Derived.Test.YtapoedcmhdlpfaaQ20
import Derived.Laws.EntriesVeiled
import Derived.Deep.LoopGhost
import Derived.WalkMore
import Derived.Deep.CutRange
import Derived.Deep.CutBlock
import Derived.Deep.Light
import Derived.Test.YtapoedcmhdlpfaaQ19
import Derived.OwnWalkIn
import Derived.TacticsInMore
import Derived.LoopNIn
import Derived.LoopIn
import Derived.Test.YtapoedcmhdlpfaaQ16
import Derived.Test.YtapoedcmhdlpfaaQ21
import Derived.Deep.RegionLaw
import Derived.Test.YtapoedcmhdlpfaaQ0
import Derived.Test.YtapoedcmhdlpfaaQ15
namespace Go.Proofs.Ytapoedcmhdlpfaa
open Go.ChangeShapes Go.WideShapes Go.ChangeAt Go.RowKit
theorem fw_round (ro : Option Nat) : (Fw ro).round = ro := rfl
theorem fw_depth (ro : Option Nat) : (Fw ro).depth = none := rfl
theorem fw_fn (ro : Option Nat) (f : FuncId) : (Fw ro).fn f = True := rfl
attribute [local go_sem] fw_round fw_depth fw_fn Oper.semAt_some
/-- a counter's row, its last j numbers set back -/
def rowAt (r : List Nat) (j : Nat) : List Nat := (r.drop j).reverse ++ List.replicate j 0
theorem rowAt_length {r : List Nat} {j : Nat} (h : j ≤ r.length) : (rowAt r j).length = r.length := by
  unfold rowAt; rw [List.length_append, List.length_reverse, List.length_drop, List.length_replicate]; omega
theorem rowAt_split {r : List Nat} {j : Nat} (h : j < r.length) : rowAt r j = (r.drop (j + 1)).reverse ++ r[j] :: List.replicate j 0 := by
  unfold rowAt
  rw [List.drop_eq_getElem_cons h, List.reverse_cons, List.append_assoc]; rfl
theorem rowAt_get {r : List Nat} {j : Nat} (h : j < r.length) : (rowAt r j)[r.length - 1 - j]? = some r[j] := by
  rw [rowAt_split h, List.getElem?_append_right (by rw [List.length_reverse, List.length_drop]; omega)]
  have : r.length - 1 - j - (List.drop (j + 1) r).reverse.length = 0 := by rw [List.length_reverse, List.length_drop]; omega
  rw [this]; rfl
theorem rowAt_set {r : List Nat} {j : Nat} (h : j < r.length) (x : Nat) : (rowAt r j).set (r.length - 1 - j) x = (r.drop (j + 1)).reverse ++ x :: List.replicate j 0 := by
  rw [rowAt_split h, List.set_append_right _ _ (by rw [List.length_reverse, List.length_drop]; omega)]
  have : r.length - 1 - j - (List.drop (j + 1) r).reverse.length = 0 := by rw [List.length_reverse, List.length_drop]; omega
  rw [this]; rfl
theorem rowAt_next {r : List Nat} {j : Nat} : (r.drop (j + 1)).reverse ++ 0 :: List.replicate j 0 = rowAt r (j + 1) := by
  unfold rowAt; rw [List.replicate_succ]
theorem incs_at {s : Nat} (hs : 0 < s) {r : List Nat} {j : Nat} (h : j < r.length) (hall : ∀ x ∈ r.take j, ¬ x + 1 < s) (hx : r[j] + 1 < s) : (r.drop (j + 1)).reverse ++ (r[j] + 1) :: List.replicate j 0 = (incs s r).1.reverse ∧ (incs s r).2 = false := by
  have e : r = r.take j ++ r.drop j := (List.take_append_drop j r).symm
  have h1 := incs_over hs (r.take j) (r.drop j) hall
  rw [← e, List.drop_eq_getElem_cons h, incs, if_pos hx] at h1
  rw [h1]
  have hl : (r.take j).length = j := by rw [List.length_take]; omega
  rw [hl]
  simp
theorem incs_all {s : Nat} (hs : 0 < s) {r : List Nat} (hall : ∀ x ∈ r, ¬ x + 1 < s) : (incs s r).2 = true := by
  have h1 := incs_over hs r [] hall
  rw [List.append_nil] at h1
  rw [h1]; rfl
theorem take_snoc {α : Type} {l : List α} {k : Nat} (h : k < l.length) : l = l.take k ++ l[k] :: l.drop (k + 1) := by
  rw [← List.drop_eq_getElem_cons h, List.take_append_drop]
/-- from one row to the next -/
theorem row_more {s n k j : Nat} (hs : 0 < s) (hk : k < s ^ n) (hj : j < n) (hall : ∀ x ∈ (digs s n k).take j, ¬ x + 1 < s) (hx : (digs s n k)[j]'(by rw [digs_length]; exact hj) + 1 < s) :
    k + 1 < s ^ n ∧ ((rowAt (digs s n k) j).set (n - 1 - j) ((digs s n k)[j]'(by rw [digs_length]; exact hj) + 1)) = rowAt (digs s n (k + 1)) 0 := by
  have hl : j < (digs s n k).length := by rw [digs_length]; exact hj
  obtain ⟨h1, h2⟩ := incs_at hs hl hall hx
  have h3 : k + 1 < s ^ n := by
    rcases Nat.lt_or_ge (k + 1) (s ^ n) with h | h
    · exact h
    · have := incs_last hs n k hk (by omega)
      rw [h2] at this; cases this
  refine ⟨h3, ?_⟩
  have h4 := rowAt_set hl ((digs s n k)[j] + 1)
  rw [digs_length] at h4
  rw [h4, h1, incs_more hs n k h3]
  simp [rowAt]
theorem row_last {s n k : Nat} (hs : 0 < s) (_hk : k < s ^ n) (hall : ∀ x ∈ (digs s n k).take n, ¬ x + 1 < s) : ¬ k + 1 < s ^ n := fun h => by
  have h1 := incs_all hs (r := digs s n k) (by intro x hx; exact hall x (by rw [List.take_of_length_le (by rw [digs_length]; omega)]; exact hx))
  rw [incs_more hs n k h] at h1
  cases h1

def natV (d : Nat) : Value := .int .i64 (d : Int)
/-- what the counter hands out -/
def GivesR (x : List Nat) (args : Array Value) (w : World) : Prop := ∃ a c, args = #[.slice a x.length c] ∧ IsInts w a (x.map fun (d : Nat) => (d : Int))
def CntNeeds (s n nb sb : Nat) (S : List Nat) (W : World) : Prop := W.cell? ⟨nb, 0, none⟩ = some (.int .i64 n) ∧ W.cell? ⟨sb, 0, none⟩ = some (.int .i64 s) ∧ nb ∉ S ∧ sb ∉ S
theorem mkN (n : Nat) (hn : n ≤ 2097152) (w : World) : (Instr.makeSlice 31 (.int .i64 (n : Int)) (.int .i64 (n : Int))).run Try.prog w = .ok (.slice (some ⟨w.heap.size, 0, none⟩) n n) (w.alloc (.cells (madeCells #[.int .i64 0] n) 3)) := by
  obtain ⟨i, hi, hz, hs, hb⟩ : ∃ i, Try.prog.info? 3 = some i ∧ i.zero = some (.int .i64 0) ∧ i.size = 1 ∧ i.bytes = 8 := by
    have h := infoI
    cases h2 : Try.prog.info? 3 with
    | none => rw [h2] at h; cases h
    | some i => rw [h2] at h; simp only [Option.map_some, Option.some.injEq, Prod.mk.injEq] at h; exact ⟨i, rfl, h⟩
  have hr := run_make (P := Try.prog) w 31 3 i _ Try.underlying31 hi hz .i64 .i64 n n (by omega) (by omega) (by rw [hb]; omega) (by omega)
  simp only [Int.toNat_natCast] at hr
  rw [hs, Nat.mul_one] at hr
  exact hr
theorem Own.madeN (n : Nat) (w : World) : Own (w.alloc (.cells (madeCells #[.int .i64 0] n) 3)) w.heap.size ((List.replicate n 0).map natV) := fun i v hv => by
  have hi : i < n := by
    rcases Nat.lt_or_ge i n with h | h
    · exact h
    · rw [List.getElem?_eq_none (by simp; omega)] at hv; cases hv
  have ho := heap_alloc_new w (.cells (madeCells #[.int .i64 0] n) 3)
  have hc := cell_of_row _ w.heap.size i _ _ _ ho
  refine ⟨?_, made_unfrozen _ _ _ _⟩
  rw [hc, made_at hi]
  rw [List.getElem?_map, List.getElem?_replicate, if_pos hi] at hv
  exact hv
theorem Own.ints {w : World} {b : Nat} {r : List Nat} (hr : ∀ x ∈ r, x < 4) (h : Own w b (r.map natV)) : IsInts w (some ⟨b, 0, none⟩) (r.map fun (d : Nat) => (d : Int)) := fun i hi => by
  have hi' : i < r.length := by simpa using hi
  have h1 := (h i (natV r[i]) (by rw [List.getElem?_map, List.getElem?_eq_getElem hi']; rfl)).1
  have h2 := hr _ (List.getElem_mem hi')
  rw [List.getElem_map]
  refine ⟨by omega, by omega, b, 0, rfl, ?_⟩
  rw [Nat.zero_add]
  exact h1
/-- between two rounds of the counter -/
def CntRel (s n rb : Nat) (J : Bool → World → List (List Nat) → List Nat → Prop) (S0 : List Nat) (W : World) (g : Nat) (wr : World) : Prop :=
  ∃ (k : Nat) (S' : List Nat), k < s ^ n ∧ g = s ^ n - k ∧ Own wr rb ((rowAt (digs s n k) 0).map natV) ∧ Mv S0 W S' wr ∧ J true wr ((rowsL s n).take k) S' ∧ rb ∉ S' ∧ W.heap.size ≤ rb ∧ rb < wr.heap.size
end Go.Proofs.Ytapoedcmhdlpfaa
namespace Go.Proofs.Ytapoedcmhdlpfaa
open Go.ChangeShapes Go.WideShapes Go.ChangeAt Go.RowKit
attribute [local go_sem] fw_round fw_depth fw_fn Oper.semAt_some
theorem Mv.own {S S' T : List Nat} {a b c : World} (h : Mv S a S' b) (k : Chg T b c) (hT : ∀ i ∈ T, a.heap.size ≤ i) : Mv S a S' c :=
  ⟨⟨k.os.trans h.chg.os, k.tape.trans h.chg.tape, k.output.trans h.chg.output, Nat.le_trans h.chg.size k.size, fun i hi hs => (k.block i (Nat.lt_of_lt_of_le hi h.chg.size) (fun hm => by have := hT i hm; omega)).trans (h.chg.block i hi hs)⟩,
   fun i hi => by
    rcases h.new i hi with h1 | h1
    · exact .inl h1
    · exact .inr ⟨h1.1, Nat.lt_of_lt_of_le h1.2 k.size⟩⟩
theorem prefix_snoc {α : Type} {l : List α} {k : Nat} (h : k < l.length) : l.take k ++ [l[k]] <+: l :=
  ⟨l.drop (k + 1), by rw [List.append_assoc, List.singleton_append, ← List.drop_eq_getElem_cons h, List.take_append_drop]⟩
theorem take_snoc' {α : Type} {l : List α} {k : Nat} (h : k < l.length) : l.take k ++ [l[k]] = l.take (k + 1) := (List.take_succ_eq_append_getElem h).symm
theorem natV_at {r : List Nat} {p x : Nat} (h : r[p]? = some x) : (r.map natV)[p]? = some (.int .i64 (x : Int)) := by rw [List.getElem?_map, h]; rfl
theorem natV_set {r : List Nat} {p x : Nat} : (r.map natV).set p (.int .i64 (x : Int)) = (r.set p x).map natV := by rw [List.map_set]; rfl
theorem row_moreD {s n k : Nat} {D : List Nat} (hD : D = digs s n k) (hDl : D.length = n) (hs : 0 < s) (hk : k < s ^ n) {j : Nat} (hj : j < n) (hall : ∀ x ∈ D.take j, ¬ x + 1 < s) {d : Nat} (hd : D[j]? = some d) (hx : d + 1 < s) :
    k + 1 < s ^ n ∧ ((rowAt D j).set (n - 1 - j) (d + 1)) = rowAt (digs s n (k + 1)) 0 := by
  subst hD
  have hl : j < (digs s n k).length := by omega
  rw [List.getElem?_eq_getElem hl] at hd
  injection hd with hd
  subst hd
  exact row_more hs hk hj hall hx
theorem row_lastD {s n k : Nat} {D : List Nat} (hD : D = digs s n k) (hs : 0 < s) (hk : k < s ^ n) (hall : ∀ x ∈ D.take n, ¬ x + 1 < s) : ¬ k + 1 < s ^ n := by subst hD; exact row_last hs hk hall
set_option maxHeartbeats 8000000 in
set_option maxRecDepth 100000 in
theorem counts_ok (s n nb sb : Nat) (hs1 : 1 ≤ s) (h3 : s ≤ 3) (hn : n ≤ 8) : IterN 76 #[.pointer (some ⟨nb, 0, none⟩), .pointer (some ⟨sb, 0, none⟩)] (rowsL s n) GivesR (CntNeeds s n nb sb) := by
  intro y J W S0 hD hlt hj hJ hR m
  obtain ⟨hnb, hsb, hnS, hsS⟩ := hD
  have hmk := mkN n (by omega)
  have hs0 : 0 < s := by omega
  have hnl : nb < W.heap.size := cell_lt hnb
  have hsl : sb < W.heap.size := cell_lt hsb
  have hA := ext_alloc W (.cells (madeCells #[.int .i64 0] n) 3)
  have hO0 := Own.madeN n W
  refine callsIn_of_wp Try.func76 rfl trivial (wpIn_wide.2 ?_) rfl
  simp only [Try.ntmps76, List.size_toArray, List.length_cons, List.length_nil, Nat.reduceAdd, Nat.reduceSub, Array.replicate_succ, Array.replicate_zero, List.push_toArray, List.append_toArray, List.nil_append, List.cons_append]
  have HR := Lib.hid hR
  have HJ := Lib.hid hJ
  clear hR hJ
  go_wp2_with fail
  obtain ⟨W0, hW0⟩ : ∃ W0, W0 = W.alloc (.cells (madeCells #[.int .i64 0] n) 3) := ⟨_, rfl⟩
  rw [← hW0] at hA hO0 ⊢
  have hWs : W.heap.size < W0.heap.size := by rw [hW0]; simp
  clear hW0 hmk
  have hj0 : J true W0 [] S0 := HJ.out _ _ _ _ _ [] (by simp) hj (Chg.of_ext hA)
  have hrS : ∀ b ∈ S0, b ≠ W.heap.size := fun b hb => by have := hlt b hb; omega
  have hrw0 : (rowAt (digs s n 0) 0).map natV = (List.replicate n 0).map natV := by rw [digs_zero]; simp [rowAt]
  go_loopg [] (s ^ n) (fun g wr => CntRel s n W.heap.size J S0 W g wr)
  case atStart => exact ⟨0, S0, Nat.pow_pos hs0, rfl, by rw [hrw0]; exact hO0, Mv.of_ext hA, by simpa using hj0, fun h => hrS _ h rfl, Nat.le_refl _, hWs⟩
  case round =>
    obtain ⟨k, S', hk, hg, ho, hmv, hjr, hrb1, hrb2, hrb3⟩ := hrel
    have hkl : k < (rowsL s n).length := by rw [rowsL_length]; exact hk
    have hitems := take_snoc hkl
    have hxr : (rowsL s n)[k] = rowAt (digs s n k) 0 := by rw [rowsL_at]; simp [rowAt]
    have hxl : ((rowsL s n)[k]).length = n := (rowsL_mem hs0 (List.getElem_mem hkl)).1
    have hx4 : ∀ x ∈ rowAt (digs s n k) 0, x < 4 := fun x hx => by
      have := (rowsL_mem hs0 (List.getElem_mem hkl)).2 x (by rw [hxr]; exact hx); omega
    have hgv : GivesR (rowsL s n)[k] #[.slice (some ⟨W.heap.size, 0, none⟩) n n] wr := ⟨_, _, by rw [hxl], by rw [hxr]; exact Own.ints hx4 ho⟩
    have hnb6 := hmv.cell hnb hnS
    have hsb6 := hmv.cell hsb hsS
    have hnS6 := hmv.out hnb hnS
    have hsS6 := hmv.out hsb hsS
    have HG := Lib.hid hg
    have HXR := Lib.hid hxr
    have HIT := Lib.hid hitems
    obtain ⟨fn, tmps, assign, body, hyd, hRd⟩ := HR.out ((rowsL s n).take k) (rowsL s n)[k] ((rowsL s n).drop (k + 1)) hitems #[.slice (some ⟨W.heap.size, 0, none⟩) n n] wr S' hgv hjr (m - 1)
    clear hg hxr hitems hgv hxl hx4 hjr
    refine (wpIn_wide (n := m)).1 ?_
    gi_wp2
    refine ⟨(fun h => (by cases h)), hRd.mono ?_⟩
    clear hRd hyd
    rintro e w6 ⟨bb, S6, rfl, hmv6, hj6⟩
    have ho6 := ho.chg hmv6.chg hrb1
    have hrb6 : W.heap.size ∉ S6 := fun h => by
      rcases hmv6.new _ h with h1 | h1
      · exact hrb1 h1
      · omega
    cases bb with
    | false =>
      have HP := Lib.hid (show PostR J S0 W [] (rowsL s n) false w6 from ⟨S6, hmv.trans hmv6, .inr ⟨rfl, _, prefix_snoc hkl, by simpa using hj6⟩⟩)
      clear hj6
      gi_wp2
      go_wp2_with fail
      (try rw [Exit.noGoto_ret])
      go_returns
      exact ⟨⟨_, rfl⟩, false, HP.out⟩
    | true =>
      rw [take_snoc' hkl] at hj6
      have HJ6 := Lib.hid hj6
      have hmv7 : Mv S0 W S6 w6 := hmv.trans hmv6
      replace hnb6 := hmv6.cell hnb6 hnS6
      replace hsb6 := hmv6.cell hsb6 hsS6
      have hrb7 : W.heap.size < w6.heap.size := Nat.lt_of_lt_of_le hrb3 hmv6.chg.size
      obtain ⟨D, hD⟩ : ∃ D, D = digs s n k := ⟨_, rfl⟩
      have hDl : D.length = n := by rw [hD]; exact digs_length _ _ _
      have hDr : ∀ x ∈ D, x < s := by rw [hD]; exact digs_lt hs0 n k
      have HMO := Lib.hid (fun j (hj : j < n) hall d (hd : D[j]? = some d) hx => row_moreD hD hDl hs0 hk hj hall hd hx)
      have HLA := Lib.hid (row_lastD hD hs0 hk)
      rw [← hD] at ho6
      have hwn : IntKind.i64.wrap ((n : Int) - 1) = (n : Int) - 1 := IntWalk.i64_in _ (by omega)
      have hIx : n ≤ 8 := hn
      clear hj6 hmv hmv6 ho hA hO0 hj0 hrw0 hnS6 hsS6 hrb1 hrb3 hD
      gi_wp2
      refine wpIn_wide.2 ?_
      go_loopw [5] (fun i wr => ∃ j : Nat, j ≤ n ∧ i = .int .i64 ((n : Int) - 1 - j) ∧ Own wr W.heap.size ((rowAt D j).map natV) ∧ (∀ x ∈ D.take j, ¬ x + 1 < s) ∧ Chg [W.heap.size] w6 wr) (fun i _ => (intOf i + 1).toNat)
      case atStart => exact ⟨0, Nat.zero_le _, by simp, ho6, by simp, Chg.refl _ _⟩
      case round =>
        obtain ⟨j, hjn, rfl, hO, hall, hch⟩ := hrel
        have HALL := Lib.hid hall; clear hall
        replace hnb6 := hch.cell hnb6 (by simp; omega)
        replace hsb6 := hch.cell hsb6 (by simp; omega)
        by_cases hjl : j < n
        · obtain ⟨p, hp⟩ : ∃ p : Nat, (n : Int) - 1 - j = p := ⟨n - 1 - j, by omega⟩
          have hpn : p = n - 1 - j := by omega
          obtain ⟨d, hd⟩ : ∃ d, D[j]? = some d := ⟨_, List.getElem?_eq_getElem (by omega)⟩
          have hds : d < s := by
            obtain ⟨h1, rfl⟩ := List.getElem?_eq_some_iff.1 hd
            exact hDr _ (List.getElem_mem h1)
          have hget : (rowAt D j)[p]? = some d := by
            obtain ⟨h1, rfl⟩ := List.getElem?_eq_some_iff.1 hd
            rw [hpn, ← hDl]
            have := rowAt_get (r := D) h1
            rw [hDl] at this ⊢
            exact this
          obtain ⟨m1, m2⟩ := hO p _ (natV_at hget)
          have hplt : p < ((rowAt D j).map natV).length := by rw [List.length_map, rowAt_length (by omega)]; omega
          have HSET := Lib.hid (fun x => hO.set hplt (.int .i64 ((x : Nat) : Int)))
          have HP := Lib.hid hpn
          have HDD := Lib.hid hd
          rw [hp]
          have hp0 : (0 : Int) ≤ (p : Int) := by omega
          have hp1 : ¬ (p : Int) < 0 := by omega
          have hpi : (p : Int) < (n : Int) := by omega
          have hwd : IntKind.i64.wrap ((d : Int) + 1) = ((d + 1 : Nat) : Int) := by rw [IntWalk.i64_in _ (by omega)]; omega
          clear hpn hd hget hp hO hplt
          go_wp2_with fail
          obtain ⟨V, hV⟩ : ∃ V, V = wr.setCell ⟨W.heap.size, p, none⟩ (.int .i64 ((d + 1 : Nat) : Int)) := ⟨_, rfl⟩
          have hVe : wr.setCell ⟨W.heap.size, p, none⟩ (.int .i64 ((d : Int) + 1)) = V := by rw [hV]; rfl
          have hOV := HSET.out (d + 1)
          rw [← hV] at hOV
          have hchV : Chg [W.heap.size] w6 V := by rw [hV]; exact hch.setCell (p := ⟨W.heap.size, p, none⟩) _ (.inl (by simp))
          have hsbV : V.cell? ⟨sb, 0, none⟩ = some (.int .i64 s) := by rw [hV, World.cell?_setCell_other _ _ _ _ (by simp <;> omega)]; exact hsb6
          have hnbV : V.cell? ⟨nb, 0, none⟩ = some (.int .i64 n) := by rw [hV, World.cell?_setCell_other _ _ _ _ (by simp <;> omega)]; exact hnb6
          have n1 : V.cell? ⟨W.heap.size, p, none⟩ = some (.int .i64 ((d : Int) + 1)) := by rw [← hVe]; exact World.cell?_setCell_same _ _ _ m1
          have n2 : V.frozen? ⟨W.heap.size, p, none⟩ = false := by rw [hV, World.frozen?_setCell]; exact m2
          first | rw [hVe] | rw [← hV]
          clear hV hVe HSET m1 m2 hnb6 hsb6 hch
          by_cases hlts : d + 1 < s
          · have hq1 : decide ((d : Int) + 1 < (s : Int)) = true := decide_eq_true (by omega)
            obtain ⟨hk1, hrow⟩ := HMO.out j hjl HALL.out d HDD.out hlts
            rw [natV_set, HP.out, hrow] at hOV
            have HOV := Lib.hid hOV
            have hkk : k + 1 < (rowsL s n).length := by rw [rowsL_length]; exact hk1
            clear hOV hrow
            go_quiet (fail)
            go_wp2_with fail
            refine wpIn_wide.2 ?_
            go_wp2_with fail
            go_roundg (s ^ n - (k + 1))
            case measure => have := HG.out; go_light; omega
            case rel =>
              have hchN := hchV.trans (Chg.of_ext (Ext.drewN (Below.refl _ V) nq))
              exact ⟨k + 1, S6, hk1, rfl, HOV.out.ext (Ext.drewN (Below.refl _ V) nq), Mv.own hmv7 hchN (by simp), HJ.out _ _ _ _ _ [W.heap.size] (by simpa using hrb6) HJ6.out hchN, hrb6, Nat.le_refl _, Nat.lt_of_lt_of_le hrb7 hchN.size⟩
          · have hq1 : decide ((d : Int) + 1 < (s : Int)) = false := decide_eq_false (by omega)
            have HOV := Lib.hid hOV
            clear hOV
            go_quiet (fail)
            go_wp2_with fail
            have hwp : IntKind.i64.wrap ((p : Int) - 1) = (p : Int) - 1 := IntWalk.i64_in _ (by omega)
            go_roundw
            case rel =>
              have hl : j < D.length := by omega
              have hxN : Ext V (V.drewN nq) := Ext.drewN (Below.refl _ V) nq
              have h1 := (HOV.out.ext hxN).set (i := p) (by rw [List.length_set, List.length_map, rowAt_length (by omega)]; have := HP.out; omega) (.int .i64 ((0 : Nat) : Int))
              have hpn := HP.out
              have hl2 : ((rowAt D j).set p (d + 1)).set p 0 = rowAt D (j + 1) := by rw [List.set_set, hpn, ← hDl, rowAt_set hl, rowAt_next]
              rw [natV_set, natV_set, hl2] at h1
              refine ⟨j + 1, by omega, by first | (congr 1; omega) | go_num, h1, fun x hx => ?_, (hchV.trans (Chg.of_ext hxN)).setCell (p := ⟨W.heap.size, p, none⟩) _ (.inl (by simp))⟩
              rw [List.take_succ_eq_append_getElem hl] at hx
              rcases List.mem_append.1 hx with hx | hx
              · exact HALL.out x hx
              · have hd := HDD.out
                rw [List.getElem?_eq_getElem hl] at hd
                injection hd with hd
                simp at hx
                omega
            case measure => simp [intOf] <;> omega
        · have hjn' : j = n := by omega
          have HLL := Lib.hid (show ¬ k + 1 < s ^ n from HLA.out (by rw [hjn'] at HALL; exact HALL.out))
          have hi1 : (n : Int) - 1 - (j : Int) = -1 := by omega
          rw [hi1]
          have hchN := hch
          have HP := Lib.hid (show PostR J S0 W [] (rowsL s n) true wr from ⟨S6, Mv.own hmv7 hchN (by simp), .inl ⟨rfl, by
            have h1 := HJ.out _ _ _ _ _ [W.heap.size] (by simpa using hrb6) HJ6.out hchN
            rw [List.take_of_length_le (by rw [rowsL_length]; have := HLL.out; omega)] at h1
            simpa using h1⟩⟩)
          clear hchN hi1 hjn' hO
          go_wp2_with fail
          refine wpIn_wide.2 ?_
          go_wp2_with fail
          (try rw [Exit.noGoto_ret])
          go_returns
          exact ⟨⟨_, rfl⟩, true, HP.out⟩
end Go.Proofs.Ytapoedcmhdlpfaa
namespace Go.Proofs.Ytapoedcmhdlpfaa
open Go.ChangeShapes Go.WideShapes Go.ChangeAt Go.RowKit Go.Maps
attribute [local go_sem] fw_round fw_depth fw_fn Oper.semAt_some
/-- does a row of values make the clause hold? -/
def rowHolds (s : Nat) (tb : List (List Int)) (c : List Lt) (row : List Nat) : Bool := clHolds s tb (told (clVars c) row zeroEnv) c
theorem leaves_mark {n : Nat} {fn : Func} {R : Ending → World → Prop} {a : Act} {W : World} {D : Nat} {v : Value} (hd : a.defers = [{ target := .collected D, args := #[] }]) (hK : W.heap[D]? = some (.deferred (some [])))
    (hr : (results fn a.tmps).run Try.prog (W.putObj D (.deferred none)) = .ok v (W.putObj D (.deferred none))) (hR : R (.returned v) (W.putObj D (.deferred none))) : bodyPostM (Fw none) n Try.prog fn R .ret a W := by
  show LeavesInM _ _ _ _ _ _ a.defers .returning W
  rw [hd]
  exact ⟨by simp, .inl ⟨_, _, rfl, run_takeDeferred hK, ⟨v, hr, hR⟩⟩⟩
theorem cell_putObj {W : World} {D : Nat} {o : Obj} {p : Addr} {v : Value} (h : W.cell? p = some v) (hD : p.block ≠ D) : (W.putObj D o).cell? p = some v := (chg_putObj W D o).cell h (by simpa using hD)
theorem Chg.past {S T : List Nat} {a b c : World} (h : Chg S a b) (k : Chg T b c) (hT : ∀ i ∈ T, a.heap.size ≤ i) : Chg S a c :=
  ⟨k.os.trans h.os, k.tape.trans h.tape, k.output.trans h.output, Nat.le_trans h.size k.size, fun i hi hs => (k.block i (Nat.lt_of_lt_of_le hi h.size) (fun hm => by have := hT i hm; omega)).trans (h.block i hi hs)⟩
set_option maxHeartbeats 1000000 in
set_option maxRecDepth 100000 in
theorem mkCounts_any (s n : Nat) (w : World) : Calls Try.prog 55 #[.int .i64 s, .int .i64 n] w fun e w' => ∃ nb sb, e = .returned (.func (.func 76) #[] #[.pointer (some ⟨nb, 0, none⟩), .pointer (some ⟨sb, 0, none⟩)]) ∧ w'.cell? ⟨nb, 0, none⟩ = some (.int .i64 n) ∧ w'.cell? ⟨sb, 0, none⟩ = some (.int .i64 s) ∧ w.heap.size ≤ nb ∧ w.heap.size ≤ sb ∧ Ext w w' := by
  have hx : Ext w ((w.alloc (.cells #[.int .i64 s] 3)).alloc (.cells #[.int .i64 n] 3)) := by go_grown
  have c0 : ((w.alloc (.cells #[.int .i64 s] 3)).alloc (.cells #[.int .i64 n] 3)).cell? ⟨w.heap.size, 0, none⟩ = some (.int .i64 s) := by go_simp
  have c1 : ((w.alloc (.cells #[.int .i64 s] 3)).alloc (.cells #[.int .i64 n] 3)).cell? ⟨w.heap.size + 1, 0, none⟩ = some (.int .i64 n) := by go_simp
  have H := Lib.hid (And.intro hx (And.intro c0 c1))
  clear hx c0 c1
  go_enter Try.func55, Try.ntmps55
  go_wp2_with fail
  go_ret
  exact ⟨_, _, rfl, H.out.2.2, H.out.2.1, by omega, Nat.le_refl _, H.out.1⟩

theorem wpIn_region_noPanic {F : Fence} {n id : Nat} {ops : Array Oper} {d : Bool} {Q : Exit → Act → World → Prop} {a : Act} {w : World} (h : (Code.region id ops d).wpIn F n Try.prog (NoPanic Q) a w) : (Code.region id ops d).wpIn F n Try.prog Q a w :=
  wpIn_mono h fun e a w hq => by cases e <;> first | exact hq | exact hq.elim
theorem EnvMap.ne {w : World} {mb n : Nat} {env : Int → Int} (h : EnvMap w mb n env) {p : Addr} {v : Value} (hp : w.cell? p = some v) : p.block ≠ mb := fun hh => by
  obtain ⟨D, -, ⟨es, cl, hb, -⟩, -⟩ := h
  unfold World.cell? at hp
  rw [hh, hb] at hp
  simp at hp
theorem IsInts.chg {S : List Nat} {w w' : World} {a : Option Addr} {l : List Int} (h : IsInts w a l) (hx : Chg S w w') (hS : ∀ p v, w.cell? p = some v → p.block ∉ S) : IsInts w' a l := fun i hi => by
  obtain ⟨h1, h2, b, o, h3, h4⟩ := h i hi
  exact ⟨h1, h2, b, o, h3, hx.cell h4 (hS _ _ h4)⟩
/-- between two rounds -/
structure HoJ (V0 : World) (R0 mb s : Nat) (tb : List (List Int)) (c : List Lt) (W : World) (pre : List (List Nat)) (S : List Nat) : Prop where
  hs : S = [R0, mb]
  chg : Chg [R0, mb] V0 W
  res : W.cell? ⟨R0, 0, none⟩ = some (.bool false)
  resf : W.frozen? ⟨R0, 0, none⟩ = false
  env : ∃ env k, EnvMap W mb k env ∧ k ≤ pre.length * 8 ∧ (∀ v, v ∉ clVars c → env v = 0) ∧ ∀ v, 0 ≤ env v ∧ env v < (s : Int)
  all : pre.all (rowHolds s tb c) = true
/-- behind a round that left -/
structure HoX (V0 : World) (R0 mb s : Nat) (tb : List (List Int)) (c : List Lt) (cd : Code) (W : World) (pre : List (List Nat)) (S : List Nat) : Prop where
  hs : S = [R0, mb]
  hcd : cd = .ret
  chg : Chg [R0, mb] V0 W
  res : W.cell? ⟨R0, 0, none⟩ = some (.bool false)
  bad : pre.all (rowHolds s tb c) = false
section
variable {V0 : World} {R0 mb s : Nat} {tb : List (List Int)} {c : List Lt} {W W' : World} {pre : List (List Nat)} {S T : List Nat}
theorem HoJ.mv (h : HoJ V0 R0 mb s tb c W pre S) (hR : R0 < V0.heap.size) (hM : mb < V0.heap.size) (k : Chg T W W') (hT : ∀ i ∈ T, V0.heap.size ≤ i) : HoJ V0 R0 mb s tb c W' pre S := by
  obtain ⟨env, n, h1, h2, h3, h4⟩ := h.env
  exact ⟨h.hs, h.chg.past k hT, k.cell h.res (fun hm => by have := hT _ hm; simp at this; omega), k.frozen h.res (fun hm => by have := hT _ hm; simp at this; omega) h.resf, ⟨env, n, h1.chg k (fun hm => by have := hT _ hm; omega), h2, h3, h4⟩, h.all⟩
theorem HoX.mv {cd : Code} (h : HoX V0 R0 mb s tb c cd W pre S) (hR : R0 < V0.heap.size) (k : Chg T W W') (hT : ∀ i ∈ T, V0.heap.size ≤ i) : HoX V0 R0 mb s tb c cd W' pre S :=
  ⟨h.hs, h.hcd, h.chg.past k hT, k.cell h.res (fun hm => by have := hT _ hm; simp at this; omega), h.bad⟩
end
set_option maxHeartbeats 8000000 in
set_option maxRecDepth 100000 in
theorem holds_any {l : List Sy} {s : Nat} {tb : List (List Int)} (hm : modCheck l s tb = 0) (c : List Lt) (hf : ∀ x ∈ c, x.fine l) (hcl : c.length ≤ 16) (h8 : (clVars c).length ≤ 8)
    (w : World) (ta : Option Addr) (tc : Nat) (hT : IsTabs w ta tb) (ca : Option Addr) (cn : Nat) (hc : IsLits w ca c)
    (hcv : ∀ w', Ext w w' → Calls Try.prog 24 #[.slice ca c.length cn] w' fun e w'' => (∃ a' c', e = .returned (.slice a' (clVars c).length c') ∧ (clVars c).length ≤ c' ∧ AtInts (fun b => w'.heap.size ≤ b) w'' a' (clVars c)) ∧ Ext w' w'') :
    Calls Try.prog 25 #[.agg #[.int .i64 s, .slice ta tb.length tc], .slice ca c.length cn] w fun e w' => e = .returned (.bool (clTrue s tb c)) ∧ Ext w w' := by
  obtain ⟨-, ⟨s', hs', hs1, hs3⟩, -, -, -⟩ := mod_parts hm
  obtain rfl : s = s' := by omega
  clear hs'
  rw [clTrue_rows (by omega)]
  obtain ⟨W, hW⟩ : ∃ W, W = (((w.alloc (.cells #[.int .i64 s, .slice ta tb.length tc] 27)).alloc (.cells #[.slice ca c.length cn] 33)).alloc (.cells #[.bool false] 4)) := ⟨_, rfl⟩
  have hx : Ext w W := by subst hW; go_grown
  have hsW : W.heap.size = w.heap.size + 3 := by subst hW; simp
  have k0 : W.cell? ⟨w.heap.size, 0, none⟩ = some (.int .i64 s) := by subst hW; go_simp
  have k1 : W.cell? ⟨w.heap.size, 1, none⟩ = some (.slice ta tb.length tc) := by subst hW; go_simp
  have k2 : W.cell? ⟨w.heap.size + 1, 0, none⟩ = some (.slice ca c.length cn) := by subst hW; go_simp
  have k3 : W.cell? ⟨w.heap.size + 1 + 1, 0, none⟩ = some (.bool false) := by subst hW; go_simp
  have f3 : W.frozen? ⟨w.heap.size + 1 + 1, 0, none⟩ = false := by subst hW; go_simp
  have HCV := Lib.hid (fun w' (h : Ext W w') => hcv w' (hx.trans h))
  have HCN := Lib.hid (fun n w => mkCounts_any s n w)
  have hmm := @run_makeMap Try.prog
  clear hcv
  refine callsFw.1 (callsIn_of_wp_marks (n := 0) Try.func25 rfl trivial (wpIn_wide.2 ?_))
  simp only [Try.ntmps25, List.size_toArray, List.length_cons, List.length_nil, Nat.reduceAdd, Nat.reduceSub, Array.replicate_succ, Array.replicate_zero, List.push_toArray, List.append_toArray, List.nil_append, List.cons_append]
  go_wp2_with fail
  rw [← hW]
  clear hW
  go_step3
  go_wp2_with (go_at_call 24; refine (HCV.out _ (Below.refl _ _)).mono ?_; rintro e w1 ⟨⟨va, vc, rfl, hvc, hVI⟩, hx1⟩; replace k0 := hx1.cell k0; replace k1 := hx1.cell k1; replace k2 := hx1.cell k2; replace f3 := hx1.frozen k3 f3; replace k3 := hx1.cell k3)
  obtain ⟨M, hM⟩ : ∃ M, M = ((w1.alloc (.cells #[.slice va (clVars c).length vc] 31)).alloc (.map #[] 0)).alloc (.cells #[.map (some (w1.heap.size + 1))] 54) := ⟨_, rfl⟩
  rw [← hM]
  have hxM : Ext w1 M := by rw [hM]; go_grown
  have k5 : M.cell? ⟨w1.heap.size, 0, none⟩ = some (.slice va (clVars c).length vc) := by rw [hM]; go_simp
  have k6 : M.cell? ⟨w1.heap.size + 1 + 1, 0, none⟩ = some (.map (some (w1.heap.size + 1))) := by rw [hM]; go_simp
  have hEM : EnvMap M (w1.heap.size + 1) 0 (fun _ => 0) := by
    have h := env_new (w1.alloc (.cells #[.slice va (clVars c).length vc] 31))
    rw [show (w1.alloc (.cells #[.slice va (clVars c).length vc] 31)).heap.size = w1.heap.size + 1 by simp] at h
    rw [hM]; exact h.ext (ext_alloc _ _)
  have hMs : M.heap.size = w1.heap.size + 3 := by rw [hM]; simp
  have h13 : w.heap.size + 3 ≤ w1.heap.size := by have := hx1.size; omega
  replace k0 := hxM.cell k0
  replace k1 := hxM.cell k1
  replace k2 := hxM.cell k2
  replace f3 := hxM.frozen k3 f3
  replace k3 := hxM.cell k3
  replace hVI := hVI.keep (Q := fun b => W.heap.size ≤ b) (fun _ h _ => h) (fun p v _ hv => hxM.cell hv)
  have hxwM : Ext w M := hx.trans (hx1.trans hxM)
  clear hM hxM hmm HCV
  go_step3
  go_wp2_with (go_at_call 55; refine (HCN.out _ _).mono ?_; rintro e w2 ⟨nb, sb, rfl, n1, n2, hnb, hsb, hx2⟩)
  have hB0 : EnvMap w2 (w1.heap.size + 1) 0 (fun _ => 0) := hEM.ext hx2
  replace k0 := hx2.cell k0
  replace k1 := hx2.cell k1
  replace k2 := hx2.cell k2
  replace f3 := hx2.frozen k3 f3
  replace k3 := hx2.cell k3
  replace k5 := hx2.cell k5
  replace k6 := hx2.cell k6
  replace hVI := hVI.keep (Q := fun b => W.heap.size ≤ b) (fun _ h _ => h) (fun p v _ hv => hx2.cell hv)
  have hxw2 : Ext w w2 := hxwM.trans hx2
  have hsz2 : M.heap.size ≤ w2.heap.size := hx2.size
  have hnb' := cell_lt n1
  have hsb' := cell_lt n2
  simp only at hnb' hsb'
  have hR0 : w.heap.size + 1 + 1 < w2.heap.size := by omega
  have hmb0 : w1.heap.size + 1 < w2.heap.size := by omega
  have hVR := clVars_fine hf
  refine (wpIn_wide (n := 0)).1 ?_
  refine wpIn_rangeFunc_new (n := 0) (gf := 76) (lb := #[.pointer (some ⟨nb, 0, none⟩), .pointer (some ⟨sb, 0, none⟩)]) (by rfl) (fun _ _ => rfl) (counts_ok s (clVars c).length nb sb hs1 hs3 h8) (fun x args w h => by obtain ⟨_, _, rfl, -⟩ := h; rfl)
    [w.heap.size + 1 + 1, w1.heap.size + 1] (HoJ w2 (w.heap.size + 1 + 1) (w1.heap.size + 1) s tb c) (HoX w2 (w.heap.size + 1 + 1) (w1.heap.size + 1) s tb c) ?hD ?hS0 ?h0 ?hJ ?hJx ?hJn ?hJxn ?body ?done ?stop
  case hD =>
    intro w' hw'
    exact ⟨hw'.cell n1, hw'.cell n2, by simp; omega, by simp; omega⟩
  case hS0 => intro b hb; simp at hb; omega
  case h0 => exact ⟨rfl, Chg.refl _ _, k3, f3, ⟨_, 0, hB0, by omega, fun _ _ => rfl, fun v => zero_range hs1 v⟩, rfl⟩
  case hJ => exact fun u1 u2 s S _ h k => h.mv hR0 hmb0 k (by simp)
  case hJx => exact fun c u1 u2 s S _ h k => h.mv hR0 k (by simp)
  case hJn => exact fun u1 u2 s S T hT h k => h.mv hR0 hmb0 k (fun i hi => by have := (hT i hi).1; omega)
  case hJxn => exact fun c u1 u2 s S T hT h k => h.mv hR0 k (fun i hi => by have := (hT i hi).1; omega)
  case done =>
    intro V S hm hj hK
    obtain ⟨-, hchg, hres, hresf, -, hall⟩ := hj
    have HA := Lib.hid hall
    have hVs := hchg.size
    have hDl : w2.heap.size < V.heap.size := (Array.getElem?_eq_some_iff.1 hK).1
    have hK2 : (V.setCell ⟨w.heap.size + 1 + 1, 0, none⟩ (.bool true)).heap[w2.heap.size]? = some (.deferred (some [])) := (Below.heap_setCell _ _ _ _ (by simp; omega)).trans hK
    have c1 := cell_putObj (D := w2.heap.size) (o := .deferred none) (World.cell?_setCell_same (a := (⟨w.heap.size + 1 + 1, 0, none⟩ : Addr)) (w := V) (v := Value.bool true) hres) (by simp; omega)
    have hch : Chg [w.heap.size + 1 + 1, w1.heap.size + 1, w2.heap.size] w2 ((V.setCell ⟨w.heap.size + 1 + 1, 0, none⟩ (.bool true)).putObj w2.heap.size (.deferred none)) :=
      ((hchg.mono (by simp <;> omega)).setCell (p := ⟨w.heap.size + 1 + 1, 0, none⟩) _ (.inl (by simp))).trans ((chg_putObj _ _ _).mono (by simp))
    have HE := Lib.hid (Chg.ext hxw2 hch (by simp; omega))
    clear hch hall hm hchg
    go_wp2_with fail
    (try rw [Exit.noGoto_ret])
    exact leaves_mark (v := .bool true) rfl hK2 (by simp [results, Try.results25, go_sem, c1]) ⟨ret_bool HA.out.symm, HE.out⟩
  case stop =>
    intro cd q V S hq hm hj hK
    obtain ⟨-, rfl, hchg, hres, hbad⟩ := hj
    have HB := Lib.hid (show (rowsL s (clVars c).length).all (rowHolds s tb c) = false by
      obtain ⟨r, hr⟩ := hq
      rw [← hr, List.all_append, hbad]; rfl)
    have c1 := cell_putObj (D := w2.heap.size) (o := .deferred none) hres (by simp; omega)
    have hch : Chg [w.heap.size + 1 + 1, w1.heap.size + 1, w2.heap.size] w2 (V.putObj w2.heap.size (.deferred none)) := (hchg.mono (by simp <;> omega)).trans ((chg_putObj _ _ _).mono (by simp))
    have HE := Lib.hid (Chg.ext hxw2 hch (by simp; omega))
    gi_wp2
    (try rw [Exit.noGoto_ret])
    exact leaves_mark (v := .bool false) rfl hK (by simp [results, Try.results25, go_sem, c1]) ⟨ret_bool HB.out.symm, HE.out⟩
  case body =>
    intro pre row rest hitems args V S m hG hj hSne hVl
    obtain ⟨qa, qc, rfl, hqi⟩ := hG
    obtain ⟨rfl, hchg, hres, hresf, ⟨env, q0, hE, hq, hEz, hEr⟩, hall⟩ := hj
    have hmem : row ∈ rowsL s (clVars c).length := by rw [hitems]; simp
    obtain ⟨hrl, hrr⟩ := rowsL_mem (by omega) hmem
    have hpl : pre.length ≤ 6561 := by
      have h1 : pre.length ≤ (rowsL s (clVars c).length).length := by rw [hitems]; simp
      rw [rowsL_length] at h1
      have := pow_mul_le hs1 hs3 (k := (clVars c).length) h8
      omega
    clear hmem hitems
    gi_wp2
    intro V2 hc2 hcell2
    refine ⟨Mv.refl _ _, ?_⟩
    have hxV : Chg [w.heap.size + 1 + 1, w1.heap.size + 1] w2 V2 := hchg.past hc2 (by simp)
    have hE2 := hE.chg hc2 (by simp; omega)
    have hqi2 : IsInts V2 qa (row.map fun (d : Nat) => (d : Int)) := fun i hi => by
      obtain ⟨h1, h2, b, o, h3, h4⟩ := hqi i hi
      exact ⟨h1, h2, b, o, h3, hcell2 _ _ h4⟩
    have hres2 := hcell2 _ _ hres
    have hresf2 := hc2.frozen hres (by simp; omega) hresf
    have hxw : Ext w V2 := Chg.ext hxw2 hxV (by simp; omega)
    have hVI2 : IsInts V2 va (clVars c) := (hVI.keep (Q := fun _ => True) (fun _ _ _ => trivial) (fun p v hp hv => hxV.cell hv (by simp only [List.mem_cons, List.not_mem_nil, or_false, not_or]; exact ⟨by omega, hB0.ne hv⟩))).isInts
    have z0 := hxV.cell k0 (by simp; omega)
    have z1 := hxV.cell k1 (by simp; omega)
    have z2 := hxV.cell k2 (by simp; omega)
    have z5 := hxV.cell k5 (by simp <;> omega)
    have z6 := hxV.cell k6 (by simp <;> omega)
    have hV2s : w2.heap.size ≤ V2.heap.size := hxV.size
    have HQ := Lib.hid (And.intro hq hpl)
    have HJ0 := Lib.hid (And.intro hxV (And.intro hEz (And.intro hEr hall)))
    have HRR := Lib.hid (And.intro hrl hrr)
    clear hchg hE hqi hres hresf hcell2 hxV hq hpl hEz hEr hall k0 k1 k2 k5 k6 hVI
    gi_wp2
    gi_loopw [23] (fun i wr => ∃ k : Nat, k ≤ (clVars c).length ∧ i = .int .i64 k ∧ EnvMap wr (w1.heap.size + 1) (q0 + k) (told ((clVars c).take k) row env) ∧ Chg [w1.heap.size + 1] V2 wr) (fun i _ => (clVars c).length - (intOf i).toNat)
    case atStart => exact ⟨0, Nat.zero_le _, rfl, by have : told ((clVars c).take 0) row env = env := funext fun v => told_nil _ _ _; rw [this]; exact hE2, Chg.refl _ _⟩
    case round =>
      obtain ⟨k, hkk, rfl, hEk, hch⟩ := hrel
      replace z0 := hch.cell z0 (by simp; omega)
      replace z1 := hch.cell z1 (by simp; omega)
      replace z2 := hch.cell z2 (by simp; omega)
      replace z5 := hch.cell z5 (by simp <;> omega)
      replace z6 := hch.cell z6 (by simp <;> omega)
      by_cases hlt : k < (clVars c).length
      · have hk1 : (k : Int) < ((clVars c).length : Int) := by omega
        have hrk : k < row.length := by have := HRR.out.1; omega
        have hk2 : (k : Int) < (row.length : Int) := by omega
        obtain ⟨-, -, vb, vo, rfl, g1⟩ := hVI2 k hlt
        replace g1 := hch.cell g1 (by simpa using hE2.ne g1)
        obtain ⟨-, -, rb, ro, rfl, g2⟩ := hqi2 k (by simpa using hrk)
        replace g2 := hch.cell g2 (by simpa using hE2.ne g2)
        rw [List.getElem_map] at g2
        obtain ⟨v0, v1⟩ := hVR.2 _ (List.getElem_mem hlt)
        have HTS := Lib.hid (told_step (env := env) hlt hrk)
        have hd4 := HRR.out.2 _ (List.getElem_mem hrk)
        obtain ⟨v, hv⟩ : ∃ v : Nat, (clVars c)[k] = v := ⟨(clVars c)[k].toNat, by omega⟩
        rw [hv] at g1 HTS v0 v1
        clear hv
        generalize row[k] = d at g2 HTS hd4
        have hwk : IntKind.i64.wrap (-1 - (v : Int)) = -1 - (v : Int) := IntWalk.i64_in _ (by omega)
        have hkey := key_int (k := -1 - (v : Int)) (by omega) (by omega)
        have hwf := WalkArith.wf_i64 (n := (d : Int)) (by omega)
        have hnm : q0 + k < maxLen := by have := HQ.out; unfold maxLen; omega
        gi_wp2
        refine wpIn_region_noPanic ?_
        refine wpIn_region_AnI (by kernel_rfl) ?_
        refine AnI.walk Ext [0, 1, 2, 3, 4, 5, 6] (by kernel_rfl) goes_ext (by kernel_rfl) (fun _ _ _ _ _ h => h) ?_
        iterate 7 (apply wpS_open; (focus (simp only [List.getElem?_toArray, List.getElem?_cons_succ, List.getElem?_cons_zero]; rfl)); first | (refine St_skip (by rfl) ?_; simp only [Act.put, List.setIfInBounds_toArray, List.set_cons_zero, List.set_cons_succ]) | (apply St_want; (focus rfl); (focus (intro v1 hv; have hv2 := ext_base hv; have e0 := hv2.cell z6; have e1 := hv2.cell g2; go_simp; first | done | rfl)); simp only [Act.put, List.setIfInBounds_toArray, List.set_cons_zero, List.set_cons_succ]))
        refine wpS_nil (fun u1 hu1 => ?_)
        have hx1 : Ext wr u1 := ext_base hu1
        obtain ⟨D, hD, hown, hat⟩ := hEk.ext hx1
        obtain ⟨w5, hrun, hown5, hgrow5⟩ := hown.update intKeyed Try.underlying54 hnm hkey (plainElem_int Try.underlying3 hwf)
        refine AnI.one (i := 7) (by (simp only [List.getElem?_toArray, List.getElem?_cons_succ, List.getElem?_cons_zero]; rfl)) (by kernel_rfl) (by rfl) (fun K hK => ?_)
        go_simp
        refine hK _ _ ?_
        clear hK
        refine AnI.done (by kernel_rfl) ?_
        refine NoPanic.normal ?_
        have HEP := Lib.hid (env_put hD hat hown5)
        have HCH := Lib.hid ((hch.trans (Chg.of_ext hx1)).trans (Chg.of_grown hgrow5 (fun g hg => by injection hg with hg; subst hg; simp)))
        clear hrun hown hat hD hown5 hgrow5 hEk hu1 hx1
        gi_wp2
        go_roundw
        case rel => exact ⟨k + 1, by omega, by go_num, by rw [HTS.out]; exact HEP.out, HCH.out⟩
        case measure => simp [intOf]; omega
      · have hk1 : ¬ (k : Int) < ((clVars c).length : Int) := by omega
        have hke : (clVars c).take k = clVars c := List.take_of_length_le (by omega)
        have hte : told ((clVars c).take k) row env = told (clVars c) row zeroEnv := by rw [hke]; exact told_zero (by rw [HRR.out.1]; exact Nat.le_refl _) HJ0.out.2.1
        rw [hte] at hEk
        have HRH := Lib.hid (show rowHolds s tb c row = clHolds s tb (told (clVars c) row zeroEnv) c from rfl)
        have hTr := told_range hs1 (clVars c) row zeroEnv HRR.out.2 (zero_range hs1)
        have hTz : ∀ v, v ∉ clVars c → told (clVars c) row zeroEnv v = 0 := fun v hv => told_out _ _ _ _ hv
        have hxwo : Ext w wr := Chg.ext hxw hch (by simp; omega)
        replace hresf2 := hch.frozen hres2 (by simp <;> omega) hresf2
        replace hres2 := hch.cell hres2 (by simp <;> omega)
        generalize told (clVars c) row zeroEnv = E at *
        have HFIN := Lib.hid (fun u (hu : Ext wr u) (hrow : rowHolds s tb c row = true) => show Mv [w.heap.size + 1 + 1, w1.heap.size + 1] V2 [w.heap.size + 1 + 1, w1.heap.size + 1] u ∧ HoJ w2 (w.heap.size + 1 + 1) (w1.heap.size + 1) s tb c u (pre ++ [row]) [w.heap.size + 1 + 1, w1.heap.size + 1] from by
          have h1 : Chg [w.heap.size + 1 + 1, w1.heap.size + 1] V2 u := (hch.mono (by simp)).trans (Chg.of_ext hu)
          refine ⟨Mv.of_chg h1, rfl, HJ0.out.1.trans h1, hu.cell hres2, hu.frozen hres2 hresf2, ⟨E, q0 + k, hEk.ext hu, ?_, hTz, hTr⟩, ?_⟩
          · have := HQ.out.1; simp; omega
          · rw [List.all_append, HJ0.out.2.2.2]; simpa using hrow)
        have HBAD := Lib.hid (fun (hrow : rowHolds s tb c row = false) u (hu : Ext wr u) => show Mv [w.heap.size + 1 + 1, w1.heap.size + 1] V2 [w.heap.size + 1 + 1, w1.heap.size + 1] (u.setCell ⟨w.heap.size + 1 + 1, 0, none⟩ (.bool false)) ∧ HoX w2 (w.heap.size + 1 + 1) (w1.heap.size + 1) s tb c .ret (u.setCell ⟨w.heap.size + 1 + 1, 0, none⟩ (.bool false)) (pre ++ [row]) [w.heap.size + 1 + 1, w1.heap.size + 1] from by
          have h1 : Chg [w.heap.size + 1 + 1, w1.heap.size + 1] V2 (u.setCell ⟨w.heap.size + 1 + 1, 0, none⟩ (.bool false)) := ((hch.mono (by simp)).trans (Chg.of_ext hu)).setCell (p := ⟨w.heap.size + 1 + 1, 0, none⟩) _ (.inl (by simp))
          refine ⟨Mv.of_chg h1, rfl, rfl, HJ0.out.1.trans h1, World.cell?_setCell_same _ _ _ (hu.cell hres2), ?_⟩
          rw [List.all_append]; simp [hrow])
        have HEK := Lib.hid hEk
        have HTR := Lib.hid hTr
        clear hke hte hEk hTr hTz hch
        gi_wp2
        obtain ⟨wo, rfl⟩ : ∃ wo : World, wo = wr := ⟨_, rfl⟩
        gi_loopw [38] (fun i wr => ∃ j : Nat, j ≤ c.length ∧ i = .int .i64 j ∧ clHolds s tb E (c.take j) = false ∧ Ext wo wr) (fun i _ => c.length - (intOf i).toNat)
        case atStart => exact ⟨0, Nat.zero_le _, rfl, rfl, Below.refl _ _⟩
        case round =>
          obtain ⟨j, hjj, rfl, hno, hext⟩ := hrel
          have HNO := Lib.hid hno; clear hno
          replace z0 := hext.cell z0
          replace z1 := hext.cell z1
          replace z6 := hext.cell z6
          have hxr := hxwo.trans hext
          by_cases hltj : j < c.length
          · have hj1 : (j : Int) < c.length := by omega
            obtain ⟨b, o, la, lc, ra, rc, rfl, h1, h2, h3, h4, h5, hL, hRt⟩ := (hc.ext hxr) j hltj
            have hfk := hf _ (List.getElem_mem hltj)
            have hA := ext_alloc wr (.cells #[.bool c[j].neg, .int .i64 c[j].l.f, .slice la c[j].l.ks.length lc, .int .i64 c[j].r.f, .slice ra c[j].r.ks.length rc] 49)
            obtain ⟨m0, m1, m2, m3, m4⟩ := cells5 wr (.bool c[j].neg) (.int .i64 c[j].l.f) (.slice la c[j].l.ks.length lc) (.int .i64 c[j].r.f) (.slice ra c[j].r.ks.length rc) 49
            have HV1 := Lib.hid (fun w' (h : Ext (wr.alloc (.cells #[.bool c[j].neg, .int .i64 c[j].l.f, .slice la c[j].l.ks.length lc, .int .i64 c[j].r.f, .slice ra c[j].r.ks.length rc] 49)) w') => value_any hm HTR.out c[j].l true w' ta tc (w1.heap.size + 1) (q0 + k) _ _ (hT.ext (hxr.trans (hA.trans h))) (HEK.out.ext (hext.trans (hA.trans h))) (hL.ext (hA.trans h)) hfk.lo hfk.ll)
            have HV2 := Lib.hid (fun w' (h : Ext (wr.alloc (.cells #[.bool c[j].neg, .int .i64 c[j].l.f, .slice la c[j].l.ks.length lc, .int .i64 c[j].r.f, .slice ra c[j].r.ks.length rc] 49)) w') => value_any hm HTR.out c[j].r true w' ta tc (w1.heap.size + 1) (q0 + k) _ _ (hT.ext (hxr.trans (hA.trans h))) (HEK.out.ext (hext.trans (hA.trans h))) (hRt.ext (hA.trans h)) hfk.ro hfk.rl)
            have HST := Lib.hid (clHolds_step (sz := s) (tb := tb) (env := E) hltj HNO.out)
            have HHT := Lib.hid (clHolds_hit (sz := s) (tb := tb) (env := E) hltj)
            have hlh : litHolds s tb E c[j] = ((c[j].l.val s tb E == c[j].r.val s tb E) != c[j].neg) := rfl
            rw [hlh] at HST HHT
            have y0 := hA.cell z0
            have y1 := hA.cell z1
            have y6 := hA.cell z6
            clear hL hRt hfk hlh
            generalize c[j].l.val s tb E = x1 at *
            generalize c[j].r.val s tb E = x2 at *
            generalize c[j].neg = neg at *
            generalize c[j].l.f = lf at *
            generalize c[j].r.f = rf at *
            generalize c[j].l.ks.length = ll at *
            generalize c[j].r.ks.length = rl at *
            cases hq : (x1 == x2) <;> rw [hq] at HST HHT <;> cases neg
            · skip
              have HH := Lib.hid (HST.out rfl)
              clear HST HHT
              gi_wp2
              refine wpIn_region_noPanic ?_
              refine wpIn_region_AnI (by kernel_rfl) ?_
              refine AnI.walk Ext [0, 1, 2, 3, 4, 5, 6, 7, 8, 9, 10, 11, 12, 13] (by kernel_rfl) goes_ext (by kernel_rfl) (fun _ _ _ _ _ h => h) ?_
              iterate 14 (apply wpS_open; (focus (simp only [List.getElem?_toArray, List.getElem?_cons_succ, List.getElem?_cons_zero]; rfl)); first | (refine St_skip (by rfl) ?_; simp only [Act.put, List.setIfInBounds_toArray, List.set_cons_zero, List.set_cons_succ]) | (apply St_want; (focus rfl); (focus (intro v1 hv; have hv2 := ext_base hv; have e0 := hv2.cell m0; have e1 := hv2.cell m1; have e2 := hv2.cell m2; have e3 := hv2.cell m3; have e4 := hv2.cell m4; have e5 := hv2.cell y0; have e6 := hv2.cell y1; have e7 := hv2.cell y6; go_simp; first | done | rfl | ((with_reducible refine (HV1.out _ hv2).mono ?_); rintro e w' ⟨rfl, hw'⟩; exact ⟨rfl, hw'⟩) | ((with_reducible refine (HV2.out _ hv2).mono ?_); rintro e w' ⟨rfl, hw'⟩; exact ⟨rfl, hw'⟩))); simp only [Act.put, List.setIfInBounds_toArray, List.set_cons_zero, List.set_cons_succ]))
              refine wpS_nil (fun u1 hu1 => ?_)
              refine AnI.done (by kernel_rfl) ?_
              refine NoPanic.normal ?_
              have hx1 : Ext wr u1 := hA.trans (ext_base hu1)
              clear hu1
              gi_wp2
              go_roundw
              case rel => exact ⟨j + 1, by omega, by go_num, HH.out, hext.trans hx1⟩
              case measure => simp [intOf]; omega
            · skip
              have HH := Lib.hid (HHT.out rfl)
              clear HST HHT
              gi_wp2
              refine wpIn_region_noPanic ?_
              refine wpIn_region_AnI (by kernel_rfl) ?_
              refine AnI.walk Ext [0, 1, 2, 3, 4, 5, 6, 7, 8, 9, 10, 11, 12, 13] (by kernel_rfl) goes_ext (by kernel_rfl) (fun _ _ _ _ _ h => h) ?_
              iterate 14 (apply wpS_open; (focus (simp only [List.getElem?_toArray, List.getElem?_cons_succ, List.getElem?_cons_zero]; rfl)); first | (refine St_skip (by rfl) ?_; simp only [Act.put, List.setIfInBounds_toArray, List.set_cons_zero, List.set_cons_succ]) | (apply St_want; (focus rfl); (focus (intro v1 hv; have hv2 := ext_base hv; have e0 := hv2.cell m0; have e1 := hv2.cell m1; have e2 := hv2.cell m2; have e3 := hv2.cell m3; have e4 := hv2.cell m4; have e5 := hv2.cell y0; have e6 := hv2.cell y1; have e7 := hv2.cell y6; go_simp; first | done | rfl | ((with_reducible refine (HV1.out _ hv2).mono ?_); rintro e w' ⟨rfl, hw'⟩; exact ⟨rfl, hw'⟩) | ((with_reducible refine (HV2.out _ hv2).mono ?_); rintro e w' ⟨rfl, hw'⟩; exact ⟨rfl, hw'⟩))); simp only [Act.put, List.setIfInBounds_toArray, List.set_cons_zero, List.set_cons_succ]))
              refine wpS_nil (fun u1 hu1 => ?_)
              refine AnI.done (by kernel_rfl) ?_
              refine NoPanic.normal ?_
              have hx1 : Ext wr u1 := hA.trans (ext_base hu1)
              clear hu1
              have HF := Lib.hid (HFIN.out u1 (hext.trans hx1) (by rw [HRH.out]; exact HH.out))
              gi_wp2
              exact ⟨_, HF.out⟩
            · skip
              have HH := Lib.hid (HHT.out rfl)
              clear HST HHT
              gi_wp2
              refine wpIn_region_noPanic ?_
              refine wpIn_region_AnI (by kernel_rfl) ?_
              refine AnI.walk Ext [0, 1, 2, 3, 4, 5, 6, 7, 8, 9, 10, 11, 12, 13] (by kernel_rfl) goes_ext (by kernel_rfl) (fun _ _ _ _ _ h => h) ?_
              iterate 14 (apply wpS_open; (focus (simp only [List.getElem?_toArray, List.getElem?_cons_succ, List.getElem?_cons_zero]; rfl)); first | (refine St_skip (by rfl) ?_; simp only [Act.put, List.setIfInBounds_toArray, List.set_cons_zero, List.set_cons_succ]) | (apply St_want; (focus rfl); (focus (intro v1 hv; have hv2 := ext_base hv; have e0 := hv2.cell m0; have e1 := hv2.cell m1; have e2 := hv2.cell m2; have e3 := hv2.cell m3; have e4 := hv2.cell m4; have e5 := hv2.cell y0; have e6 := hv2.cell y1; have e7 := hv2.cell y6; go_simp; first | done | rfl | ((with_reducible refine (HV1.out _ hv2).mono ?_); rintro e w' ⟨rfl, hw'⟩; exact ⟨rfl, hw'⟩) | ((with_reducible refine (HV2.out _ hv2).mono ?_); rintro e w' ⟨rfl, hw'⟩; exact ⟨rfl, hw'⟩))); simp only [Act.put, List.setIfInBounds_toArray, List.set_cons_zero, List.set_cons_succ]))
              refine wpS_nil (fun u1 hu1 => ?_)
              refine AnI.done (by kernel_rfl) ?_
              refine NoPanic.normal ?_
              have hx1 : Ext wr u1 := hA.trans (ext_base hu1)
              clear hu1
              have HF := Lib.hid (HFIN.out u1 (hext.trans hx1) (by rw [HRH.out]; exact HH.out))
              gi_wp2
              exact ⟨_, HF.out⟩
            · skip
              have HH := Lib.hid (HST.out rfl)
              clear HST HHT
              gi_wp2
              refine wpIn_region_noPanic ?_
              refine wpIn_region_AnI (by kernel_rfl) ?_
              refine AnI.walk Ext [0, 1, 2, 3, 4, 5, 6, 7, 8, 9, 10, 11, 12, 13] (by kernel_rfl) goes_ext (by kernel_rfl) (fun _ _ _ _ _ h => h) ?_
              iterate 14 (apply wpS_open; (focus (simp only [List.getElem?_toArray, List.getElem?_cons_succ, List.getElem?_cons_zero]; rfl)); first | (refine St_skip (by rfl) ?_; simp only [Act.put, List.setIfInBounds_toArray, List.set_cons_zero, List.set_cons_succ]) | (apply St_want; (focus rfl); (focus (intro v1 hv; have hv2 := ext_base hv; have e0 := hv2.cell m0; have e1 := hv2.cell m1; have e2 := hv2.cell m2; have e3 := hv2.cell m3; have e4 := hv2.cell m4; have e5 := hv2.cell y0; have e6 := hv2.cell y1; have e7 := hv2.cell y6; go_simp; first | done | rfl | ((with_reducible refine (HV1.out _ hv2).mono ?_); rintro e w' ⟨rfl, hw'⟩; exact ⟨rfl, hw'⟩) | ((with_reducible refine (HV2.out _ hv2).mono ?_); rintro e w' ⟨rfl, hw'⟩; exact ⟨rfl, hw'⟩))); simp only [Act.put, List.setIfInBounds_toArray, List.set_cons_zero, List.set_cons_succ]))
              refine wpS_nil (fun u1 hu1 => ?_)
              refine AnI.done (by kernel_rfl) ?_
              refine NoPanic.normal ?_
              have hx1 : Ext wr u1 := hA.trans (ext_base hu1)
              clear hu1
              gi_wp2
              go_roundw
              case rel => exact ⟨j + 1, by omega, by go_num, HH.out, hext.trans hx1⟩
              case measure => simp [intOf]; omega
          · have hj1 : ¬ (j : Int) < c.length := by omega
            have hje : c.take j = c := List.take_of_length_le (by omega)
            have HB := Lib.hid (HBAD.out (by rw [HRH.out]; have := HNO.out; rwa [hje] at this) wr hext)
            replace hresf2 := hext.frozen hres2 hresf2
            replace hres2 := hext.cell hres2
            clear hje
            gi_wp2
            exact ⟨_, HB.out⟩
end Go.Proofs.Ytapoedcmhdlpfaa
namespace Go.Proofs.Ytapoedcmhdlpfaa
open Go.ChangeShapes Go.WideShapes Go.ChangeAt Go.RowKit Go.Sort
def catVs (c : List Lt) : List Int := c.flatMap fun x => x.l.vars ++ x.r.vars
theorem catVs_step {c : List Lt} {k : Nat} (h : k < c.length) : catVs (c.take (k + 1)) = (catVs (c.take k) ++ c[k].l.vars) ++ c[k].r.vars := by
  unfold catVs
  rw [List.take_succ_eq_append_getElem h, List.flatMap_append]; simp
theorem vars_len (t : Tm) : t.vars.length ≤ t.size := by
  rw [vars_eq]
  have := join_length t []
  simpa using this
theorem catVs_len {l : List Sy} : ∀ {c : List Lt}, (∀ x ∈ c, x.fine l) → (catVs c).length ≤ 600 * c.length
  | [], _ => by simp [catVs]
  | x :: c, h => by
    have h1 := catVs_len (c := c) fun y hy => h y (List.mem_cons_of_mem _ hy)
    have h2 := h x List.mem_cons_self
    have h3 := vars_len x.l
    have h4 := vars_len x.r
    have h5 := h2.ls
    have h6 := h2.rs
    have e : catVs (x :: c) = (x.l.vars ++ x.r.vars) ++ catVs c := rfl
    rw [e, List.length_append, List.length_append, List.length_cons]
    omega
theorem catVs_mem {c : List Lt} (v : Int) : v ∈ catVs c ↔ ∃ x ∈ c, v ∈ x.l.vl ∨ v ∈ x.r.vl := by
  unfold catVs
  simp only [List.mem_flatMap, List.mem_append, vars_eq, join_mem]
theorem catVs_vars (c : List Lt) : Lib.compact ((catVs c).mergeSort fun x y => decide (x ≤ y)) = clVars c := by
  obtain ⟨h1, h2⟩ := clVars_spec c
  have hs : ((catVs c).mergeSort fun x y => decide (x ≤ y)).Pairwise (· ≤ ·) := by
    have := List.pairwise_mergeSort (le := fun (x y : Int) => decide (x ≤ y)) (by intro a b c h1 h2; simp at *; omega) (by intro a b; simp; omega) (catVs c)
    exact this.imp (by simp)
  obtain ⟨h3, h4⟩ := compact_spec _ hs
  refine strict_ext _ _ h3 h1 fun v => ?_
  rw [h4, List.mem_mergeSort, catVs_mem, h2]

set_option maxHeartbeats 8000000 in
set_option maxRecDepth 100000 in
theorem mClVars_any {l : List Sy} (c : List Lt) (hf : ∀ x ∈ c, x.fine l) (hcl : c.length ≤ 16) (w : World) (ca : Option Addr) (cn : Nat) (hc : IsLits w ca c) :
    Calls Try.prog 24 #[.slice ca c.length cn] w fun e w' => (∃ a' c', e = .returned (.slice a' (clVars c).length c') ∧ (clVars c).length ≤ c' ∧ AtInts (fun b => w.heap.size ≤ b) w' a' (clVars c)) ∧ Ext w w' := by
  go_enter Try.func24, Try.ntmps24
  go_wp2_with fail
  go_loopw [3, 8] (fun o i wr => ∃ k : Nat, k ≤ c.length ∧ i = .int .i64 k ∧ GRow eltInt 3 w.heap.size wr o (catVs (c.take k)) ∧ Ext w wr) (fun _ i _ => c.length - (intOf i).toNat)
  case atStart => exact ⟨0, Nat.zero_le _, rfl, GRow.nil, Below.refl _ _⟩
  case round =>
    obtain ⟨k, hkk, rfl, hrow, hext⟩ := hrel
    by_cases hlt : k < c.length
    · have hk1 : (k : Int) < c.length := by omega
      obtain ⟨b, o, la, lc, ra, rc, rfl, h1, h2, h3, h4, h5, hL, hRt⟩ := hc k hlt
      replace h1 := hext.cell h1
      replace h2 := hext.cell h2
      replace h3 := hext.cell h3
      replace h4 := hext.cell h4
      replace h5 := hext.cell h5
      have hfk := hf _ (List.getElem_mem hlt)
      have HST := Lib.hid (catVs_step hlt)
      have hlen1 : (catVs (c.take k)).length ≤ 9600 := by
        have := catVs_len (l := l) (c := c.take k) (fun x hx => hf x (List.mem_of_mem_take hx))
        have h2 : (c.take k).length ≤ 16 := by rw [List.length_take]; omega
        omega
      have hlen2 := vars_len c[k].l
      have hlen3 := vars_len c[k].r
      have hls := hfk.ls
      have hrs := hfk.rs
      have HL := Lib.hid (fun w' (h : Ext w w') => varsN_any c[k].l w' _ _ (hL.ext h) (by omega))
      have HR := Lib.hid (fun w' (h : Ext w w') => varsN_any c[k].r w' _ _ (hRt.ext h) (by omega))
      obtain ⟨m0, m1, m2, m3, m4⟩ := cells5 wr (.bool c[k].neg) (.int .i64 c[k].l.f) (.slice la c[k].l.ks.length lc) (.int .i64 c[k].r.f) (.slice ra c[k].r.ks.length rc) 49
      obtain ⟨V, hV⟩ : ∃ V, V = wr.alloc (.cells #[.bool c[k].neg, .int .i64 c[k].l.f, .slice la c[k].l.ks.length lc, .int .i64 c[k].r.f, .slice ra c[k].r.ks.length rc] 49) := ⟨_, rfl⟩
      have hxV : Ext wr V := by rw [hV]; exact ext_alloc _ _
      rw [← hV] at m0 m1 m2 m3 m4
      obtain ⟨M, hM⟩ : ∃ M, M = catVs (c.take k) := ⟨_, rfl⟩
      rw [← hM] at hrow HST hlen1
      obtain ⟨L1, hL1⟩ : ∃ L1, L1 = c[k].l.vars := ⟨_, rfl⟩
      obtain ⟨L2, hL2⟩ : ∃ L2, L2 = c[k].r.vars := ⟨_, rfl⟩
      rw [← hL1] at HL HST hlen2
      rw [← hL2] at HR HST hlen3
      have HLN := Lib.hid (show M.length ≤ 9600 ∧ L1.length ≤ 300 ∧ L2.length ≤ 300 from ⟨hlen1, by omega, by omega⟩)
      clear hM hL1 hL2 hL hRt hfk hlen1 hlen2 hlen3 hls hrs
      generalize c[k].neg = neg at *
      generalize c[k].l.f = lf at *
      generalize c[k].r.f = rf at *
      generalize c[k].l.ks.length = ll at *
      generalize c[k].r.ks.length = rl at *
      have hown : ∀ g, ∀ v, GRow eltInt 3 w.heap.size wr v M → v.ownBlock = some g → w.heap.size ≤ g ∧ g < wr.heap.size := fun g v hr hg => hr.own_ge hg
      obtain ⟨ao, co, rfl, hmc⟩ := hrow.form
      have hne1 : ∀ i ∈ (Value.slice ao M.length co).ownBlock.toList, w.heap.size ≤ i ∧ i ≠ wr.heap.size := fun i hi => by
        have := hown i _ hrow (by simpa using hi)
        exact ⟨this.1, by omega⟩
      go_upto_region 5 with fail
      rw [← hV]
      clear hV h1 h2 h3 h4 h5 hown
      have hwV : Ext w V := hext.trans hxV
      have HNE := Lib.hid hne1
      clear hne1
      go_region_law ((first
        | (go_simp; go_at_call 18; with_reducible refine (HL.out _ (hwV.trans (Ext.drew (Below.refl _ _)))).mono ?_; rintro e w2 ⟨⟨a2, c2, rfl, hc2, hI2⟩, hx2⟩; (have hx2' : Ext V w2 := (Ext.drew (Below.refl _ V)).trans hx2); (have d3 := hx2'.cell m3); (have d4 := hx2'.cell m4); (have hw2 : Ext w w2 := hwV.trans hx2'))
        | (refine step_append_ints rfl (.tmp 12) (.tmp 15) rfl (v := .slice ao M.length co) (l := M) (xs := L1) (by rfl) (hrow.ext (hxV.trans hx2')) (by rfl) hI2.isInts (by have := HLN.out; omega) hw2.size ?_; intro v3 w3 hr3 hch3 hov3; (have e3 := hch3.cell d3 (fun hm => (HNE.out _ hm).2 rfl)); (have e4 := hch3.cell d4 (fun hm => (HNE.out _ hm).2 rfl)); (have hw3 : Ext w w3 := Chg.ext hw2 hch3 (fun i hi => (HNE.out i hi).1)); (obtain ⟨a3, n3, rfl, hn3⟩ := hr3.form); (rw [List.length_append] at hr3))
        | (go_simp; go_at_call 18; with_reducible refine (HR.out _ hw3).mono ?_; rintro e w4 ⟨⟨a4, c4, rfl, hc4, hI4⟩, hx4⟩; (have hw4 : Ext w w4 := hw3.trans hx4))
        | (refine step_append_ints rfl (.tmp 16) (.tmp 19) rfl (v := .slice a3 (M.length + L1.length) n3) (l := M ++ L1) (xs := L2) (by rfl) (hr3.ext hx4) (by rfl) hI4.isInts (by have := HLN.out; rw [List.length_append]; omega) hw4.size ?_; intro v5 w5 hr5 hch5 hov5)))
      all_goals
        go_wp2_with fail
        go_roundw
        case rel => exact ⟨k + 1, by omega, by go_num, by rw [HST.out]; exact hr5, Chg.ext hw4 hch5 (fun i hi => ((hr3.ext hx4).own_ge (by simpa using hi)).1)⟩
        case measure => simp [intOf]; omega
    · have hk1 : ¬ (k : Int) < c.length := by omega
      have hke : c.take k = c := List.take_of_length_le (by omega)
      rw [hke] at hrow
      have hCl : (catVs c).length ≤ 9600 := by have := catVs_len (l := l) hf; omega
      have HCV := Lib.hid (catVs_vars c)
      have hCm : ∀ v ∈ catVs c, 0 ≤ v ∧ v < 48 := fun v hv => by
        obtain ⟨x, hx, hv⟩ := (catVs_mem v).1 hv
        exact fine_vars (hf x hx) v hv
      have Hr := Lib.hid hCm
      clear hke hCm
      generalize catVs c = C at *
      obtain ⟨ao, co, rfl, hmc⟩ := hrow.form
      by_cases hv0 : C.length = 0
      · have hvn : C = [] := List.eq_nil_of_length_eq_zero hv0
        have HZ := Lib.hid (show clVars c = [] by rw [← HCV.out, hvn]; simp [Lib.compact, Lib.compactUpTo])
        rw [hv0]
        clear hrow hCl HCV hvn
        go_wp2_with (first | (go_at_call 47; refine (Try.slices_Sort_int_none ao co _).mono ?_; rintro e w2 ⟨rfl, rfl⟩) | (go_at_call 48; refine (Try.slices_Compact_int_empty ao co _).mono ?_; rintro e w3 ⟨rfl, rfl⟩))
        go_ret
        rw [HZ.out]
        exact ⟨⟨_, _, rfl, Nat.zero_le _, fun i hi => by simp at hi⟩, by first | exact hext | exact hext.drewN _⟩
      · have hn0 : 0 < C.length := by omega
        obtain ⟨g, cap, cs, hv, hb, hltg, -⟩ := hrow.at hn0
        rw [hv] at hrow ⊢
        injection hv with e1 _ e3
        subst e1; subst e3
        have hho := hrow.holds
        have hS := Try.slices_Sort_int g 0 co C wr hho hltg (by omega)
        obtain ⟨srt, hsrt⟩ : ∃ srt, srt = C.mergeSort fun x y => decide (x ≤ y) := ⟨_, rfl⟩
        have hZ0 := HCV.out
        rw [← hsrt] at hS hZ0
        have hsl : srt.length = C.length := by rw [hsrt, List.length_mergeSort]
        have hsm : ∀ v ∈ srt, 0 ≤ v ∧ v < 48 := by
          intro v hv
          rw [hsrt, List.mem_mergeSort] at hv
          exact Hr.out v hv
        have hcl := (compact_spec srt (by
          have := List.pairwise_mergeSort (le := fun (x y : Int) => decide (x ≤ y)) (by intro a b c h1 h2; simp at *; omega) (by intro a b; simp; omega) C
          rw [hsrt]
          exact this.imp (by simp))).2
        have HZ := Lib.hid hZ0
        clear hZ0
        have hlen : (Lib.compact srt).length ≤ srt.length := by
          unfold Lib.compact Lib.compactUpTo
          rw [List.length_map]
          exact Nat.le_trans (List.length_filter_le _ _) (by simp)
        clear hsrt
        have Hcl := Lib.hid hcl; clear hcl
        have Hsm := Lib.hid hsm; clear hsm
        have hC := fun (w2 : World) (h : Holds (Value.int .i64) w2 g 0 srt.toArray) => Try.slices_Compact_int g 0 co srt w2 h (by omega) (by omega)
        rw [hsl] at hC
        have hfin : ∀ (w2 w3 : World) (q3 : Nat), Holds (Value.int .i64) w2 g 0 srt.toArray → w3 = putRow (Value.int .i64) (Sort.ahead w2 q3) g 0 (Lib.compact srt ++ List.replicate (C.length - (Lib.compact srt).length) 0).toArray → Chg [g] w2 w3 ∧ AtInts (fun b => w.heap.size ≤ b) w3 (some ⟨g, 0, none⟩) (Lib.compact srt) := by
          intro w2 w3 q3 h2 hw3
          refine ⟨by rw [hw3]; exact chg_putRow _ _ _ _ _ _, fun i hi => ?_⟩
          have hm := (Hcl.out (Lib.compact srt)[i]).1 (List.getElem_mem hi)
          obtain ⟨r1, r2⟩ := Hsm.out _ hm
          refine ⟨by omega, by omega, g, 0, rfl, hb, ?_⟩
          rw [hw3]
          have := cell?_putRow (Value.int .i64) (Sort.ahead w2 q3) g 0 srt.toArray (Lib.compact srt ++ List.replicate (C.length - (Lib.compact srt).length) 0).toArray (holds_ahead _ _ _ _ _ _ h2) (by simp; omega) i (by simp; omega)
          rw [this, getElem!_pos _ i (by simp; omega)]
          simp [hi]
        have Hfin := Lib.hid hfin; clear hfin
        have HC := Lib.hid hC; clear hC
        have HS := Lib.hid hS; clear hS
        have H0 := Lib.hid hho; clear hho
        have HB := Lib.hid hb
        clear HCV hrow
        go_wp2_with (first | (go_at_call 47; (refine (HS.out).mono ?_); rintro e w2 ⟨rfl, n, os, hw2⟩; (have h2 : Holds (Value.int .i64) w2 g 0 srt.toArray := by rw [hw2]; exact holds_grow _ _ _ _ _ _ (by simpa using hltg) (holds_putRow _ _ _ _ _ _ (holds_ahead _ _ _ _ _ _ H0.out) (by simp [hsl]))); (have hx2 : Chg [g] wr w2 := by rw [hw2]; exact (chg_putRow _ _ _ _ _ _).trans (Chg.of_ext (ext_grow _ _))); clear hw2) | (go_at_call 48; (refine (HC.out _ h2).mono ?_); rintro e w3 ⟨rfl, q3, hw3⟩; obtain ⟨hx3, hI3⟩ := Hfin.out _ _ _ h2 hw3; clear hw3))
        go_ret
        rw [← HZ.out]
        exact ⟨⟨_, _, rfl, by omega, hI3⟩, Chg.ext hext (hx2.trans hx3) (by intro i hi; simp at hi; subst hi; exact HB.out)⟩
end Go.Proofs.Ytapoedcmhdlpfaa
namespace Go.Proofs.Ytapoedcmhdlpfaa
open Go.ChangeShapes Go.WideShapes Go.ChangeAt Go.RowKit
set_option maxHeartbeats 4000000 in
set_option maxRecDepth 100000 in
theorem mClause_any (l : List Sy) (hl : l.length ≤ 1048576) (sz : Int) (tb : List (List Int)) (htl : tb.length ≤ 1048576) (hrl : ∀ r ∈ tb, r.length ≤ 1048576) (c : List Lt) (hcs : ∀ x ∈ c, x.sized) (hcl : c.length ≤ 1048576)
    (w : World) (a : Option Addr) (n : Nat) (hln : l.length ≤ n) (hn63 : n ≤ 9223372036854775807) (hsy : IsSyms w a l) (ta : Option Addr) (tc : Nat) (hT : IsTabs w ta tb) (ca : Option Addr) (cn : Nat) (hc : IsLits w ca c) :
    Calls Try.prog 9 #[.agg #[.slice a l.length n], .agg #[.int .i64 sz, .slice ta tb.length tc], .slice ca c.length cn] w fun e w' => e = .returned (.tuple #[.bool (clauseSays l sz tb c).1, .int .i64 (clauseSays l sz tb c).2]) ∧ Ext w w' := by
  obtain ⟨W, hW⟩ : ∃ W, W = (w.alloc (.cells #[.slice a l.length n] 24)).alloc (.cells #[.int .i64 sz, .slice ta tb.length tc] 27) := ⟨_, rfl⟩
  have hx : Ext w W := by subst hW; go_grown
  have k0 : W.cell? ⟨w.heap.size, 0, none⟩ = some (.slice a l.length n) := by subst hW; go_simp
  have k1 : W.cell? ⟨w.heap.size + 1, 0, none⟩ = some (.int .i64 sz) := by subst hW; go_simp
  have k2 : W.cell? ⟨w.heap.size + 1, 1, none⟩ = some (.slice ta tb.length tc) := by subst hW; go_simp
  have hM := modCheck_any l hl sz tb htl hrl W a n hln hn63 (hsy.ext hx) ta tc (hT.ext hx)
  have HCC := Lib.hid (fun w' (h : Ext W w') => clCheck_any l hl c hcs hcl w' a n hln hn63 (hsy.ext (hx.trans h)) ca cn (hc.ext (hx.trans h)))
  have hB := clauseSays_bad (l := l) (sz := sz) (tb := tb) (c := c)
  obtain ⟨Z, hZ⟩ : ∃ Z, Z = modCheck l sz tb := ⟨_, rfl⟩
  obtain ⟨Y, hY⟩ : ∃ Y, Y = clauseCheck l c := ⟨_, rfl⟩
  rw [← hZ] at hM
  rw [← hY] at HCC
  rw [← hZ, ← hY] at hB
  have HM := Lib.hid hM; clear hM
  rcases (show Z = 0 ∨ Z = 2 by rw [hZ]; exact modCases l sz tb) with rfl | rfl
  case inr =>
    rw [hB (fun h => by simp at h)]
    clear hB hZ hY HCC
    go_enter Try.func9, Try.ntmps9
    go_wp2_with ((rw [← hW]; refine (HM.out).mono ?_); rintro e w1 ⟨rfl, hx1⟩)
    go_ret2
    exact ⟨rfl, hx.trans hx1⟩
  rcases (show Y = 0 ∨ Y = 2 by rw [hY]; exact clCases l c) with rfl | rfl
  case inr =>
    rw [hB (fun h => by simp at h)]
    clear hB hZ hY
    go_enter Try.func9, Try.ntmps9
    go_wp2_with (first
      | (go_at_call 11; rw [← hW]; clear hW; refine (HM.out).mono ?_; rintro e w1 ⟨rfl, hx1⟩; have q0 := hx1.cell k0; have q1 := hx1.cell k1; have q2 := hx1.cell k2)
      | (go_at_call 23; refine (HCC.out _ hx1).mono ?_; rintro e w2 ⟨rfl, hx2⟩))
    go_ret2
    exact ⟨rfl, hx.trans (hx1.trans hx2)⟩
  clear hB
  obtain ⟨h16, hfine⟩ := clause_fine hY.symm
  have hmod := hZ.symm
  obtain ⟨-, ⟨s, rfl, hs1, hs3⟩, -, -, -⟩ := mod_parts hmod
  have HV := Lib.hid (fun w' (h : Ext W w') => mClVars_any c hfine h16 w' ca cn (hc.ext (hx.trans h)))
  have hL := clauseSays_long (l := l) (sz := s) (tb := tb) (c := c) ⟨hmod, hY.symm⟩
  have hO := clauseSays_ok (l := l) (s := s) (tb := tb) (c := c) ⟨hmod, hY.symm⟩
  by_cases h8 : 8 < (clVars c).length
  · rw [hL h8]
    have h8i : decide ((8 : Int) < ((clVars c).length : Int)) = true := decide_eq_true (by omega)
    have h8j : (8 : Int) < ((clVars c).length : Int) := by omega
    clear hL hO hZ hY hfine hmod h16
    generalize (clVars c).length = vl at *
    go_enter Try.func9, Try.ntmps9
    go_wp2_with (first
      | (go_at_call 11; rw [← hW]; clear hW; refine (HM.out).mono ?_; rintro e w1 ⟨rfl, hx1⟩; have q0 := hx1.cell k0; have q1 := hx1.cell k1; have q2 := hx1.cell k2)
      | (go_at_call 23; refine (HCC.out _ hx1).mono ?_; rintro e w2 ⟨rfl, hx2⟩; replace q1 := hx2.cell q1; replace q2 := hx2.cell q2)
      | (go_at_call 24; refine (HV.out _ (hx1.trans hx2)).mono ?_; rintro e w3 ⟨⟨va, vc, rfl, -, -⟩, hx3⟩))
    go_ret2
    exact ⟨rfl, hx.trans (hx1.trans (hx2.trans hx3))⟩
  · rw [hO h8]
    have HT := Lib.hid (fun w' (h : Ext W w') => holds_any hmod c hfine h16 (by omega) w' ta tc (hT.ext (hx.trans h)) ca cn (hc.ext (hx.trans h)) (fun w'' h2 => mClVars_any c hfine h16 w'' ca cn (hc.ext ((hx.trans h).trans h2))))
    have h8i : decide ((8 : Int) < ((clVars c).length : Int)) = false := decide_eq_false (by omega)
    have h8j : ¬ (8 : Int) < ((clVars c).length : Int) := by omega
    clear hL hO hZ hY hfine hmod h16
    generalize clTrue s tb c = B at *
    generalize (clVars c).length = vl at *
    go_enter Try.func9, Try.ntmps9
    go_wp2_with (first
      | (go_at_call 11; rw [← hW]; clear hW; refine (HM.out).mono ?_; rintro e w1 ⟨rfl, hx1⟩; have q0 := hx1.cell k0; have q1 := hx1.cell k1; have q2 := hx1.cell k2)
      | (go_at_call 23; refine (HCC.out _ hx1).mono ?_; rintro e w2 ⟨rfl, hx2⟩; replace q1 := hx2.cell q1; replace q2 := hx2.cell q2)
      | (go_at_call 24; refine (HV.out _ (hx1.trans hx2)).mono ?_; rintro e w3 ⟨⟨va, vc, rfl, -, -⟩, hx3⟩; replace q1 := hx3.cell q1; replace q2 := hx3.cell q2)
      | (go_at_call 25; refine (HT.out _ (hx1.trans (hx2.trans hx3))).mono ?_; rintro e w4 ⟨rfl, hx4⟩))
    go_ret2
    exact ⟨rfl, hx.trans (hx1.trans (hx2.trans (hx3.trans hx4)))⟩
end Go.Proofs.Ytapoedcmhdlpfaa
namespace Go.Proofs.Ytapoedcmhdlpfaa
open Go.ChangeShapes Go.WideShapes Go.ChangeAt Go.RowKit
def sig31 : List Sy := [⟨⟨#[36, 116, 114, 117, 101]⟩, 0, true⟩, ⟨⟨#[97]⟩, 0, false⟩, ⟨⟨#[102]⟩, 1, false⟩, ⟨⟨#[112]⟩, 1, true⟩]
def tab31 : List (List Int) := [[1], [0], [1, 0], [0, 1]]
def tm31 : Tm := .mk 2 [.mk 2 [.mk (-1) []]]
def cl31a : List Lt := [⟨false, .mk 3 [.mk 2 [.mk 1 []]], .mk 0 []⟩]
def cl31b : List Lt := [⟨false, .mk 3 [.mk (-1) []], .mk 0 []⟩]
theorem sig31_check : sigCheck sig31 = 0 := by decide +kernel
theorem mod31_none : modCheck sig31 0 [] = 2 := by decide +kernel
theorem says31a : termSays sig31 2 tab31 tm31 [1] = (1, 0) := by decide +kernel
theorem says31b : termSays sig31 2 tab31 (.mk (-4) []) [0, 1] = (0, 4) := by decide +kernel
theorem says31c : clauseSays sig31 2 tab31 cl31a = (true, 0) := by decide +kernel
theorem says31d : clauseSays sig31 2 tab31 cl31b = (false, 0) := by decide +kernel

theorem sig31_syms {w : World} {b o : Nat} (h : ∀ i (hi : i < 4), w.cell? ⟨b, o + i * 3, none⟩ = some (.string (sig31[i]'hi).name) ∧ w.cell? ⟨b, o + i * 3 + 1, none⟩ = some (.int .i64 (sig31[i]'hi).arity) ∧ w.cell? ⟨b, o + i * 3 + 2, none⟩ = some (.bool (sig31[i]'hi).pred)) : IsSyms w (some ⟨b, o, none⟩) sig31 := by
  intro i hi
  refine ⟨?_, b, o, rfl, h i hi⟩
  have hi' : i < 4 := hi
  have hall : ∀ s ∈ sig31, s.name.size ≤ 1048576 ∧ -9223372036854775808 ≤ s.arity ∧ s.arity ≤ 9223372036854775807 := by decide +kernel
  exact hall _ (List.getElem_mem hi)
set_option maxHeartbeats 1000000 in
theorem of_any (_f n c : Nat) (z : Int) (a : Option Addr) (w : World) : Calls Try.prog 15 #[.int .i64 z, .slice a n c] w fun e w' => e = .returned (.agg #[.int .i64 z, .slice a n c]) ∧ Ext w w' := by
  go_enter Try.func15, Try.ntmps15
  go_wp2_with fail
  refine bodyPost_ret (v := .agg #[.int .i64 z, .slice a n c]) (by simp [results, Try.results15, go_sem]) rfl ?_
  exact ⟨rfl, ext_alloc _ _⟩
set_option maxHeartbeats 2000000 in
set_option maxRecDepth 100000 in
theorem small31_any (w : World) : Calls Try.prog 14 #[] w fun e w' => (∃ a b, e = .returned (.tuple #[.agg #[.slice a 4 4], .agg #[.int .i64 2, .slice b 4 4]]) ∧ IsSyms w' a sig31 ∧ IsTabs w' b tab31) ∧ Ext w w' := by
  obtain ⟨W1, hW1⟩ : ∃ W1, W1 = (w.alloc (.cells #[.slice none 0 0] 24)).alloc (.cells #[.int .i64 0, .slice none 0 0] 27) := ⟨_, rfl⟩
  have hx1 : Ext w W1 := by subst hW1; go_grown
  have hS1 : W1.heap.size = w.heap.size + 2 := by subst hW1; simp
  have j0 : Own W1 w.heap.size [.slice none 0 0] := by subst hW1; exact (own1 _ _ _).ext (ext_alloc _ _)
  have j1 : Own W1 (w.heap.size + 1) [.int .i64 0, .slice none 0 0] := by subst hW1; simpa using own2 (w.alloc (.cells #[.slice none 0 0] 24)) (.int .i64 0) (.slice none 0 0) 27
  have hT := Lib.hid (refTruth_any W1)
  go_enter Try.func14, Try.ntmps14
  go_wp2_with ((go_at_call 37; rw [← hW1]; clear hW1; refine (hT.out).mono ?_; rintro e w2 ⟨rfl, hx2⟩; (obtain ⟨q0, q1⟩ := (j0.ext hx2) 0 _ rfl); (obtain ⟨q2, q3⟩ := (j1.ext hx2) 0 _ rfl); (obtain ⟨q4, q5⟩ := (j1.ext hx2) 1 _ rfl); (have hA7 : ∀ o1 o2 o3 o4 o5 o6 o7, Ext w2 (((((((w2.alloc o1).alloc o2).alloc o3).alloc o4).alloc o5).alloc o6).alloc o7) := fun o1 o2 o3 o4 o5 o6 o7 => ((((((ext_alloc w2 o1).trans (ext_alloc _ o2)).trans (ext_alloc _ o3)).trans (ext_alloc _ o4)).trans (ext_alloc _ o5)).trans (ext_alloc _ o6)).trans (ext_alloc _ o7)); (have ra : ∀ o1 o2 o3 o4 o5 o6 o7, ((((((((w2.alloc o1).alloc o2).alloc o3).alloc o4).alloc o5).alloc o6).alloc o7)).cell? ⟨w.heap.size, 0, none⟩ = some (.slice none 0 0) := fun o1 o2 o3 o4 o5 o6 o7 => (hA7 o1 o2 o3 o4 o5 o6 o7).cell q0); (have fa : ∀ o1 o2 o3 o4 o5 o6 o7, ((((((((w2.alloc o1).alloc o2).alloc o3).alloc o4).alloc o5).alloc o6).alloc o7)).frozen? ⟨w.heap.size, 0, none⟩ = false := fun o1 o2 o3 o4 o5 o6 o7 => (hA7 o1 o2 o3 o4 o5 o6 o7).frozen q0 q1); (have rb : ∀ o1 o2 o3 o4 o5 o6 o7, ((((((((w2.alloc o1).alloc o2).alloc o3).alloc o4).alloc o5).alloc o6).alloc o7)).cell? ⟨w.heap.size + 1, 0, none⟩ = some (.int .i64 0) := fun o1 o2 o3 o4 o5 o6 o7 => (hA7 o1 o2 o3 o4 o5 o6 o7).cell q2); (have fb : ∀ o1 o2 o3 o4 o5 o6 o7, ((((((((w2.alloc o1).alloc o2).alloc o3).alloc o4).alloc o5).alloc o6).alloc o7)).frozen? ⟨w.heap.size + 1, 0, none⟩ = false := fun o1 o2 o3 o4 o5 o6 o7 => (hA7 o1 o2 o3 o4 o5 o6 o7).frozen q2 q3); (have rc : ∀ o1 o2 o3 o4 o5 o6 o7, ((((((((w2.alloc o1).alloc o2).alloc o3).alloc o4).alloc o5).alloc o6).alloc o7)).cell? ⟨w.heap.size + 1, 1, none⟩ = some (.slice none 0 0) := fun o1 o2 o3 o4 o5 o6 o7 => (hA7 o1 o2 o3 o4 o5 o6 o7).cell q4); (have fc : ∀ o1 o2 o3 o4 o5 o6 o7, ((((((((w2.alloc o1).alloc o2).alloc o3).alloc o4).alloc o5).alloc o6).alloc o7)).frozen? ⟨w.heap.size + 1, 1, none⟩ = false := fun o1 o2 o3 o4 o5 o6 o7 => (hA7 o1 o2 o3 o4 o5 o6 o7).frozen q4 q5); clear q0 q1 q2 q3 q4 q5 hA7))
  obtain ⟨V, hV⟩ : ∃ V, V = (((((((w2.alloc (.cells #[.string truthName, .int .i64 0, .bool true, .string ⟨#[97]⟩, .int .i64 0, .bool false, .string ⟨#[102]⟩, .int .i64 1, .bool false, .string ⟨#[112]⟩, .int .i64 1, .bool true] 63)).alloc (.cells #[.slice (some ⟨w2.heap.size, 0, none⟩) 4 4] 24)).alloc (.cells #[.int .i64 1] 3)).alloc (.cells #[.int .i64 0] 3)).alloc (.cells #[.int .i64 1, .int .i64 0] 3)).alloc (.cells #[.int .i64 0, .int .i64 1] 3)).alloc (.cells #[.slice (some ⟨w2.heap.size + 1 + 1, 0, none⟩) 1 1, .slice (some ⟨w2.heap.size + 1 + 1 + 1, 0, none⟩) 1 1, .slice (some ⟨w2.heap.size + 1 + 1 + 1 + 1, 0, none⟩) 2 2, .slice (some ⟨w2.heap.size + 1 + 1 + 1 + 1 + 1, 0, none⟩) 2 2] 31)) := ⟨_, rfl⟩
  rw [← hV]
  have hxV : Ext w2 V := by rw [hV]; exact ((((((ext_alloc w2 _).trans (ext_alloc _ _)).trans (ext_alloc _ _)).trans (ext_alloc _ _)).trans (ext_alloc _ _)).trans (ext_alloc _ _)).trans (ext_alloc _ _)
  have p0 : V.cell? ⟨w.heap.size, 0, none⟩ = some (.slice none 0 0) := by rw [hV]; exact ra _ _ _ _ _ _ _
  have p1 : V.cell? ⟨w.heap.size + 1, 0, none⟩ = some (.int .i64 0) := by rw [hV]; exact rb _ _ _ _ _ _ _
  have p2 : V.cell? ⟨w.heap.size + 1, 1, none⟩ = some (.slice none 0 0) := by rw [hV]; exact rc _ _ _ _ _ _ _
  have hc : ∀ i (hi : i < 4), V.cell? ⟨w2.heap.size, 0 + i * 3, none⟩ = some (.string (sig31[i]'hi).name) ∧ V.cell? ⟨w2.heap.size, 0 + i * 3 + 1, none⟩ = some (.int .i64 (sig31[i]'hi).arity) ∧ V.cell? ⟨w2.heap.size, 0 + i * 3 + 2, none⟩ = some (.bool (sig31[i]'hi).pred) := by
    intro i hi
    subst hV
    have : i = 0 ∨ i = 1 ∨ i = 2 ∨ i = 3 := by omega
    rcases this with rfl | rfl | rfl | rfl <;> (refine ⟨?_, ?_, ?_⟩ <;> go_simp <;> rfl)
  have t00 : V.cell? ⟨w2.heap.size + 1 + 1, 0, none⟩ = some (.int .i64 1) := by subst hV; go_simp
  have t0 : V.cell? ⟨w2.heap.size + 1 + 1 + 1 + 1 + 1 + 1, 0, none⟩ = some (.slice (some ⟨w2.heap.size + 1 + 1, 0, none⟩) 1 1) := by subst hV; go_simp
  have t10 : V.cell? ⟨w2.heap.size + 1 + 1 + 1, 0, none⟩ = some (.int .i64 0) := by subst hV; go_simp
  have t1 : V.cell? ⟨w2.heap.size + 1 + 1 + 1 + 1 + 1 + 1, 1, none⟩ = some (.slice (some ⟨w2.heap.size + 1 + 1 + 1, 0, none⟩) 1 1) := by subst hV; go_simp
  have t20 : V.cell? ⟨w2.heap.size + 1 + 1 + 1 + 1, 0, none⟩ = some (.int .i64 1) := by subst hV; go_simp
  have t21 : V.cell? ⟨w2.heap.size + 1 + 1 + 1 + 1, 1, none⟩ = some (.int .i64 0) := by subst hV; go_simp
  have t2 : V.cell? ⟨w2.heap.size + 1 + 1 + 1 + 1 + 1 + 1, 2, none⟩ = some (.slice (some ⟨w2.heap.size + 1 + 1 + 1 + 1, 0, none⟩) 2 2) := by subst hV; go_simp
  have t30 : V.cell? ⟨w2.heap.size + 1 + 1 + 1 + 1 + 1, 0, none⟩ = some (.int .i64 0) := by subst hV; go_simp
  have t31 : V.cell? ⟨w2.heap.size + 1 + 1 + 1 + 1 + 1, 1, none⟩ = some (.int .i64 1) := by subst hV; go_simp
  have t3 : V.cell? ⟨w2.heap.size + 1 + 1 + 1 + 1 + 1 + 1, 3, none⟩ = some (.slice (some ⟨w2.heap.size + 1 + 1 + 1 + 1 + 1, 0, none⟩) 2 2) := by subst hV; go_simp
  clear hV ra rb rc fa fb fc
  have hs2 : w.heap.size + 2 ≤ w2.heap.size := by have := hx2.size; omega
  generalize w2.heap.size = b at *
  have hbV : w.heap.size + 2 ≤ b := hs2
  have hch : Chg [w.heap.size, w.heap.size + 1] V (((V.setCell ⟨w.heap.size, 0, none⟩ (.slice (some ⟨b, 0, none⟩) 4 4)).setCell ⟨w.heap.size + 1, 0, none⟩ (.int .i64 2)).setCell ⟨w.heap.size + 1, 1, none⟩ (.slice (some ⟨b + 1 + 1 + 1 + 1 + 1 + 1, 0, none⟩) 4 4)) :=
    (((Chg.refl _ _).setCell _ (.inl (by simp))).setCell _ (.inl (by simp))).setCell _ (.inl (by simp))
  obtain ⟨F, hF⟩ : ∃ F, F = (((V.setCell ⟨w.heap.size, 0, none⟩ (.slice (some ⟨b, 0, none⟩) 4 4)).setCell ⟨w.heap.size + 1, 0, none⟩ (.int .i64 2)).setCell ⟨w.heap.size + 1, 1, none⟩ (.slice (some ⟨b + 1 + 1 + 1 + 1 + 1 + 1, 0, none⟩) 4 4)) := ⟨_, rfl⟩
  have e0 : F.cell? ⟨w.heap.size, 0, none⟩ = some (.slice (some ⟨b, 0, none⟩) 4 4) := by
    rw [hF, World.cell?_setCell_other _ _ _ _ (by simp), World.cell?_setCell_other _ _ _ _ (by simp)]; exact World.cell?_setCell_same _ _ _ p0
  have e1 : F.cell? ⟨w.heap.size + 1, 0, none⟩ = some (.int .i64 2) := by
    rw [hF, World.cell?_setCell_other _ _ _ _ (by simp)]
    refine World.cell?_setCell_same (u := .int .i64 0) _ _ _ ?_
    rw [World.cell?_setCell_other _ _ _ _ (by simp)]; exact p1
  have e2 : F.cell? ⟨w.heap.size + 1, 1, none⟩ = some (.slice (some ⟨b + 1 + 1 + 1 + 1 + 1 + 1, 0, none⟩) 4 4) := by
    rw [hF]
    refine World.cell?_setCell_same (u := .slice none 0 0) _ _ _ ?_
    rw [World.cell?_setCell_other _ _ _ _ (by simp), World.cell?_setCell_other _ _ _ _ (by simp)]; exact p2
  rw [← hF] at hch ⊢
  clear hF
  refine bodyPost_ret (v := .tuple #[.agg #[.slice (some ⟨b, 0, none⟩) 4 4], .agg #[.int .i64 2, .slice (some ⟨b + 1 + 1 + 1 + 1 + 1 + 1, 0, none⟩) 4 4]]) (by simp [results, Try.results14, go_sem, e0, e1, e2]) rfl ?_
  have kc : ∀ {p : Addr} {v : Value}, V.cell? p = some v → b ≤ p.block → F.cell? p = some v := fun h hp => hch.cell h (by simp; omega)
  refine ⟨⟨_, _, rfl, sig31_syms fun i hi => ?_, fun i hi => ?_⟩, Chg.ext ((hx1.trans hx2).trans hxV) hch (by simp)⟩
  · obtain ⟨c1, c2, c3⟩ := hc i hi
    exact ⟨kc c1 (Nat.le_refl _), kc c2 (Nat.le_refl _), kc c3 (Nat.le_refl _)⟩
  · have hi' : i < 4 := hi
    have : i = 0 ∨ i = 1 ∨ i = 2 ∨ i = 3 := by omega
    rcases this with rfl | rfl | rfl | rfl
    · refine ⟨b + 1 + 1 + 1 + 1 + 1 + 1, 0, some ⟨b + 1 + 1, 0, none⟩, 1, rfl, kc t0 (by simp; omega), (show (1 : Nat) ≤ 1 from Nat.le_refl _), fun j hj => ?_⟩
      have hj' : j < 1 := hj
      obtain rfl : j = 0 := by omega
      exact ⟨(show (-9223372036854775808 : Int) ≤ 1 by decide), (show (1 : Int) ≤ 9223372036854775807 by decide), b + 1 + 1, 0, rfl, kc t00 (by simp; omega)⟩
    · refine ⟨b + 1 + 1 + 1 + 1 + 1 + 1, 0, some ⟨b + 1 + 1 + 1, 0, none⟩, 1, rfl, kc t1 (by simp; omega), (show (1 : Nat) ≤ 1 from Nat.le_refl _), fun j hj => ?_⟩
      have hj' : j < 1 := hj
      obtain rfl : j = 0 := by omega
      exact ⟨(show (-9223372036854775808 : Int) ≤ 0 by decide), (show (0 : Int) ≤ 9223372036854775807 by decide), b + 1 + 1 + 1, 0, rfl, kc t10 (by simp; omega)⟩
    · refine ⟨b + 1 + 1 + 1 + 1 + 1 + 1, 0, some ⟨b + 1 + 1 + 1 + 1, 0, none⟩, 2, rfl, kc t2 (by simp; omega), (show (2 : Nat) ≤ 2 from Nat.le_refl _), fun j hj => ?_⟩
      have hj' : j < 2 := hj
      have : j = 0 ∨ j = 1 := by omega
      rcases this with rfl | rfl
      · exact ⟨(show (-9223372036854775808 : Int) ≤ 1 by decide), (show (1 : Int) ≤ 9223372036854775807 by decide), b + 1 + 1 + 1 + 1, 0, rfl, kc t20 (by simp; omega)⟩
      · exact ⟨(show (-9223372036854775808 : Int) ≤ 0 by decide), (show (0 : Int) ≤ 9223372036854775807 by decide), b + 1 + 1 + 1 + 1, 0, rfl, kc t21 (by simp; omega)⟩
    · refine ⟨b + 1 + 1 + 1 + 1 + 1 + 1, 0, some ⟨b + 1 + 1 + 1 + 1 + 1, 0, none⟩, 2, rfl, kc t3 (by simp; omega), (show (2 : Nat) ≤ 2 from Nat.le_refl _), fun j hj => ?_⟩
      have hj' : j < 2 := hj
      have : j = 0 ∨ j = 1 := by omega
      rcases this with rfl | rfl
      · exact ⟨(show (-9223372036854775808 : Int) ≤ 0 by decide), (show (0 : Int) ≤ 9223372036854775807 by decide), b + 1 + 1 + 1 + 1 + 1, 0, rfl, kc t30 (by simp; omega)⟩
      · exact ⟨(show (-9223372036854775808 : Int) ≤ 1 by decide), (show (1 : Int) ≤ 9223372036854775807 by decide), b + 1 + 1 + 1 + 1 + 1, 0, rfl, kc t31 (by simp; omega)⟩
end Go.Proofs.Ytapoedcmhdlpfaa
namespace Go.Proofs.Ytapoedcmhdlpfaa
open Go.ChangeShapes Go.WideShapes Go.ChangeAt Go.RowKit
theorem infoTabs : (Try.prog.info? 31).map (fun i => (i.zero, i.size, i.bytes)) = some (some (.slice none 0 0), 1, 24) := by kernel_rfl
/-- elements that are one cell, whatever it holds -/
def eltVal : Elt Value where
  size := 1
  is := fun _ _ cs v => cs = [v] ∧ v.oneCell' = true
  len := fun h => by rw [h.1]; rfl
  one := fun h u hu => by rw [h.1] at hu; simp at hu; subst hu; exact h.2
  keep := fun _ _ h => h
theorem own_append {w1 w2 : World} {b : Nat} {vs : List Value} {v : Value} (h : Own w1 b vs) (hg : w1.grownBy w2 v.ownBlock) (hb : v.ownBlock ≠ some b) : Own w2 b vs := by
  cases ho : v.ownBlock with
  | none =>
    rw [ho] at hg
    exact h.chg (S := []) (Chg.of_grown hg (by simp)) (by simp)
  | some g =>
    rw [ho] at hg
    exact h.chg (S := [g]) (Chg.of_grown hg (by simp)) (by simp; intro he; subst he; exact hb ho)
theorem chg_append {α : Type} {E : Elt α} {e B : Nat} {S : List Nat} {w0 w w1 w2 : World} {v : Value} {l : List α} (h : Chg S w0 w) (hr : GRow E e B w v l) (hB : w0.heap.size ≤ B) (hx : Ext w w1) (hg : w1.grownBy w2 v.ownBlock) : Chg S w0 w2 := by
  cases ho : v.ownBlock with
  | none =>
    rw [ho] at hg
    exact (h.trans (Chg.of_ext hx)).trans (Chg.of_grown hg (by simp))
  | some g =>
    rw [ho] at hg
    have hgg := hr.own_ge ho
    have hs := h.size
    have h1 : Chg (g :: S) w0 w2 := ((h.trans (Chg.of_ext hx)).mono (by intro k hk; simp [hk])).trans (Chg.of_grown hg (by simp))
    exact ⟨h1.os, h1.tape, h1.output, h1.size, fun k hk hs => h1.block k hk (by simp; exact ⟨by omega, hs⟩)⟩
theorem clone_any (r : List Int) (h1 : 1 ≤ r.length) (hl : r.length ≤ 1048576) (w : World) (a : Option Addr) (c : Nat) (hI : IsInts w a r) :
    Calls Try.prog 69 #[.slice a r.length c] w fun e w' => (∃ g c', e = .returned (.slice (some ⟨g, 0, none⟩) r.length c')) ∧ Ext w w' := by
  obtain ⟨-, -, b, o, rfl, -⟩ := hI 0 (by omega)
  refine (Try.slices_Clone_int b o r.length c r w (Nat.le_refl _) (by omega) (fun j hj => ?_)).mono ?_
  · obtain ⟨-, -, b', o', e, h⟩ := hI j hj
    injection e with e; injection e with e1 e2 _
    subst e1; subst e2
    rw [h, List.getD_eq_getElem?_getD, List.getElem?_eq_getElem hj]; rfl
  · rintro e w' ⟨v', rfl, ho, -, hx⟩
    obtain ⟨g, cap, rfl, -, -⟩ := ho.form (by omega)
    exact ⟨⟨g, cap, rfl⟩, hx⟩
set_option maxHeartbeats 4000000 in
set_option maxRecDepth 100000 in
theorem copied_any (sz : Int) (tb : List (List Int)) (htl : tb.length ≤ 1048576) (hr : ∀ r ∈ tb, 1 ≤ r.length ∧ r.length ≤ 1048576) (w : World) (ta : Option Addr) (tc : Nat) (hT : IsTabs w ta tb) :
    Calls Try.prog 42 #[.agg #[.int .i64 sz, .slice ta tb.length tc]] w fun e w' => (∃ v, e = .returned v) ∧ Ext w w' := by
  obtain ⟨i0, hi0, hz0, hz1', hz2'⟩ := info_parts infoTabs
  go_enter Try.func42, Try.ntmps42
  go_wp2_with fail
  obtain ⟨W0, hW0⟩ : ∃ W0, W0 = ((w.alloc (.cells #[.int .i64 sz, .slice ta tb.length tc] 27)).alloc (.cells #[.int .i64 0, .slice none 0 0] 27)).alloc (.cells #[.int .i64 sz, .slice none 0 0] 27) := ⟨_, rfl⟩
  have hx : Ext w W0 := by rw [hW0]; exact ((ext_alloc _ _).alloc _).alloc _
  have hz : W0.heap.size = w.heap.size + 3 := by rw [hW0]; simp
  have hnb : Own W0 (w.heap.size + 1) [.int .i64 0, .slice none 0 0] := by
    rw [hW0]
    have := (own2 (w.alloc (.cells #[.int .i64 sz, .slice ta tb.length tc] 27)) (.int .i64 0) (.slice none 0 0) 27).ext (ext_alloc _ (.cells #[.int .i64 sz, .slice none 0 0] 27))
    rw [World.size_alloc] at this; exact this
  have hob : Own W0 (w.heap.size + 1 + 1) [.int .i64 sz, .slice none 0 0] := by
    rw [hW0]
    have := own2 ((w.alloc (.cells #[.int .i64 sz, .slice ta tb.length tc] 27)).alloc (.cells #[.int .i64 0, .slice none 0 0] 27)) (.int .i64 sz) (.slice none 0 0) 27
    rw [World.size_alloc, World.size_alloc] at this; exact this
  rw [← hW0]
  have hzl : w.heap.size + 3 ≤ W0.heap.size := by omega
  clear hW0 hz
  obtain ⟨nb, hnbe⟩ : ∃ nb, nb = w.heap.size + 1 := ⟨_, rfl⟩
  obtain ⟨ob, hobe⟩ : ∃ ob, ob = w.heap.size + 1 + 1 := ⟨_, rfl⟩
  rw [← hobe] at hob
  rw [← hnbe] at hnb
  rw [← hobe, ← hnbe]
  have hw1 : w.heap.size ≤ nb := by omega
  have hw2 : nb < ob := by omega
  have hw3 : ob < W0.heap.size := by omega
  clear hnbe hobe
  go_loopw [12] (fun i wr => ∃ (k : Nat) (vv : Value) (L : List Value), k ≤ tb.length ∧ L.length = k ∧ i = .int .i64 k ∧ GRow eltVal 31 W0.heap.size wr vv L ∧ Own wr ob [.int .i64 sz, vv] ∧ Own wr nb [.int .i64 0, .slice none 0 0] ∧ Chg [ob] W0 wr) (fun i _ => tb.length - (intOf i).toNat)
  case atStart => exact ⟨0, _, [], Nat.zero_le _, rfl, rfl, GRow.nil, hob, hnb, Chg.refl _ _⟩
  case round =>
    obtain ⟨k, vv, L, hkk, hLk, rfl, hrow, ho, hn2, hch⟩ := hrel
    have hxr : Ext w wr := Chg.ext hx hch (by simp; omega)
    obtain ⟨va, vc, hv, hvc⟩ := hrow.form
    rw [hLk] at hv hvc
    subst hv
    have HLK := Lib.hid hLk
    clear hLk hob hnb
    obtain ⟨q0, r0⟩ := ho 0 _ rfl
    obtain ⟨q1, r1⟩ := ho 1 _ rfl
    have hWr : W0.heap.size ≤ wr.heap.size := hch.size
    by_cases hlt : k < tb.length
    · have hk1 : (k : Int) < tb.length := by omega
      obtain ⟨b', o', a', c', rfl, g1, hlc, hI⟩ := (hT.ext hxr) k hlt
      obtain ⟨hr1, hr2⟩ := hr _ (List.getElem_mem hlt)
      have HCL := Lib.hid (fun w' (hx : Ext wr w') => clone_any tb[k] hr1 hr2 w' a' c' (hI.ext hx))
      generalize tb[k].length = N at HCL g1
      have hown : ∀ g, (Value.slice va k vc).ownBlock = some g → g < wr.heap.size := fun g hg => (hrow.own_ge hg).2
      have hown2 : ∀ g, (Value.slice va k vc).ownBlock = some g → W0.heap.size ≤ g := fun g hg => (hrow.own_ge hg).1
      clear hr1 hr2 hI
      go_upto_region 5 with fail
      go_region_law ((first
        | (go_simp; go_at_call 69; refine (HCL.out _ (Ext.drew (Below.refl _ _))).mono ?_; rintro e w2 ⟨⟨g2, c2, rfl⟩, hx2⟩; (have hx2' : Ext wr w2 := (Ext.drew (Below.refl _ wr)).trans hx2); (have d5 := hx2'.cell q1); (have d6 := hx2'.frozen q1 r1); (have d7 := (ext_alloc w2 (.cells #[.slice (some ⟨g2, 0, none⟩) N c2] 31)).cell d5))
        | (refine step_append_row rfl (.tmp 17) (.tmp 20) _ rfl 31 i0 _ 24 Try.underlying25 hi0 hz0 hz1' hz2' rfl (by decide) W0.heap.size (.slice va k vc) L (by rfl) wr hrow (hx2'.trans (ext_alloc _ _)) w2.heap.size (by rfl) _ _ (heap_alloc_new _ _) (.slice (some ⟨g2, 0, none⟩) N c2) ⟨rfl, rfl⟩ (by rw [HLK.out]; simp only [maxLen]; omega) (by rw [HLK.out]; omega) (Nat.le_trans hWr (hx2'.trans (ext_alloc _ _)).size) ?_; intro g cap w4 hrow4 hgrow hat hlt4; (have hfar : (some (⟨ob, 1, none⟩ : Addr).block) ≠ (Value.slice va k vc).ownBlock := fun e => by have := hown2 _ e.symm; simp only at this; omega); (have hlt5 : (⟨ob, 1, none⟩ : Addr).block < (w2.alloc (.cells #[.slice (some ⟨g2, 0, none⟩) N c2] 31)).heap.size := Nat.lt_of_lt_of_le (cell_lt d5) (ext_alloc w2 _).size); (have e5 := (hgrow.cell_far ⟨ob, 1, none⟩ hlt5 hfar).trans ((ext_alloc w2 _).cell d5)); (have e6 := (hgrow.frozen_far ⟨ob, 1, none⟩ hlt5 hfar).trans ((ext_alloc w2 _).frozen d5 d6)))))
      all_goals
        go_wp2_with fail
        go_roundw
        case rel =>
          have hx5 := hx2'.trans (ext_alloc w2 (.cells #[.slice (some ⟨g2, 0, none⟩) N c2] 31))
          have hset := (Chg.refl [ob] w4).setCell (p := ⟨ob, 1, none⟩) (.slice (some ⟨g, 0, none⟩) (k + 1) cap) (.inl (by simp))
          have hnot : ∀ b, b < W0.heap.size → (Value.slice va k vc).ownBlock ≠ some b := fun b hb e => by have := hown2 _ e; omega
          have hrow5 := hrow4
          rw [HLK.out] at hrow5
          try rw [HLK.out]
          refine ⟨k + 1, .slice (some ⟨g, 0, none⟩) (k + 1) cap, L ++ [.slice (some ⟨g2, 0, none⟩) N c2], by omega, by rw [List.length_append, HLK.out]; rfl, by go_num, ?_, ?_, ?_, (chg_append hch hrow (Nat.le_refl _) hx5 hgrow).trans hset⟩
          · exact hrow5.chg hset (by simp; omega)
          · have h1 := (own_append (ho.ext hx5) hgrow (hnot ob hw3)).set (i := 1) (by simp) (.slice (some ⟨g, 0, none⟩) (k + 1) cap)
            exact h1
          · have h1 := (own_append (hn2.ext hx5) hgrow (hnot nb (by omega))).chg hset (by simp; omega)
            exact h1
        case measure => simp [intOf]; omega
    · have hk1 : ¬ (k : Int) < tb.length := by omega
      obtain ⟨n0, s0⟩ := hn2 0 _ rfl
      obtain ⟨n1, s1⟩ := hn2 1 _ rfl
      clear hrow hT
      go_wp2_with fail
      have e0 : ((wr.setCell ⟨nb, 0, none⟩ (.int .i64 sz)).setCell ⟨nb, 1, none⟩ (.slice va k vc)).cell? ⟨nb, 0, none⟩ = some (.int .i64 sz) := by
        rw [World.cell?_setCell_other _ _ _ _ (by simp)]; exact World.cell?_setCell_same _ _ _ n0
      have e1 : ((wr.setCell ⟨nb, 0, none⟩ (.int .i64 sz)).setCell ⟨nb, 1, none⟩ (.slice va k vc)).cell? ⟨nb, 1, none⟩ = some (.slice va k vc) := by
        refine World.cell?_setCell_same (u := .slice none 0 0) _ _ _ ?_
        rw [World.cell?_setCell_other _ _ _ _ (by simp)]; exact n1
      have hch2 : Chg [nb] wr ((wr.setCell ⟨nb, 0, none⟩ (.int .i64 sz)).setCell ⟨nb, 1, none⟩ (.slice va k vc)) := ((Chg.refl _ _).setCell _ (.inl (by simp))).setCell _ (.inl (by simp))
      refine bodyPost_ret (v := .agg #[.int .i64 sz, .slice va k vc]) (by simp [results, Try.results42, go_sem, e0, e1]) rfl ?_
      exact ⟨⟨_, rfl⟩, Chg.ext hxr hch2 (by simp; omega)⟩
end Go.Proofs.Ytapoedcmhdlpfaa
