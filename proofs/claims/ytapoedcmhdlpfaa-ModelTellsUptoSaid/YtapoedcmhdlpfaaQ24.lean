/- Whether interpretations may be gone over: what model.counted returns, where they may. Condition: all arities are at most four.
Plain: the thirty-two interpretations of the small signature with two elements, in order; what an iterator over them keeps in its memory. No condition.
What an iterator over interpretations keeps: the rows that it makes, one behind the other; the interpretation between two rounds. No condition.
The iterator over interpretations hands out thirty-two, for the small signature and two elements. No condition.
The iterator that model.Worlds hands back: it hands out thirty-two interpretations, for the small signature and two elements. No condition.
The law ModelTells over a signature, an interpretation, a term, values and a clause that are read from memory, given that the wake-up answers true.
The law ModelTells over a signature, an interpretation, a term, values and a clause that are read from memory, given that the wake-up answers true. -/
import Derived.Test.YtapoedcmhdlpfaaQ22
import Derived.Test.YtapoedcmhdlpfaaQ9
import Derived.Deep.RegionLaw
import Derived.Test.YtapoedcmhdlpfaaQ8
import Derived.Test.YtapoedcmhdlpfaaQ23
namespace Go.Proofs.Ytapoedcmhdlpfaa
open Go.ChangeShapes Go.WideShapes Go.ChangeAt Go.RowKit
set_option maxHeartbeats 1000000 in
theorem counted1_any (nm : ByteArray) (ar : Int) (p : Bool) (h4 : ¬ 4 < ar) (w : World) : Calls Try.prog 67 #[.agg #[.string nm, .int .i64 ar, .bool p]] w fun e w' => e = .returned (.bool false) ∧ Ext w w' := by
  have hd := decide_eq_false h4
  go_enter Try.func67, Try.ntmps67
  go_wp2_with fail
  go_ret
  exact ⟨rfl, ext_alloc _ _⟩
set_option maxHeartbeats 2000000 in
theorem idxSym_any (l : List Sy) (hl : l.length ≤ 1048576) (h4 : ∀ i (hi : i < l.length), ¬ 4 < l[i].arity) (w : World) (a : Option Addr) (n : Nat) (hsy : IsSyms w a l) :
    Calls Try.prog 79 #[.slice a l.length n, .func (.func 67) #[] #[]] w fun e w' => e = .returned (.int .i64 (-1)) ∧ Ext w w' := by
  have H4 := Lib.hid h4
  clear h4
  go_enter Try.func79, Try.ntmps79
  go_wp2_with fail
  go_loopw [8] (fun i wr => ∃ k : Nat, k ≤ l.length ∧ i = .int .i64 k ∧ Ext w wr) (fun i _ => l.length - (intOf i).toNat)
  case atStart => exact ⟨0, Nat.zero_le _, rfl, Below.refl _ _⟩
  case round =>
    obtain ⟨k, hk, rfl, hx⟩ := hrel
    by_cases hlt : k < l.length
    · obtain ⟨b, o, rfl, hok, g1, g2, g3⟩ := (hsy.ext hx).look hlt
      have hlt' : (k : Int) < (l.length : Int) := by omega
      have HE := Lib.hid (fun w' => counted1_any l[k].name l[k].arity l[k].pred (by have := H4.out k hlt; omega) w')
      go_wp2_with (go_at_call 67; refine (HE.out _).mono ?_; rintro e w1 ⟨rfl, hx1⟩)
      go_roundw
      case rel => exact ⟨k + 1, by omega, by go_num, hx.trans hx1⟩
      case measure => simp [intOf]; omega
    · have hlt' : ¬ (k : Int) < (l.length : Int) := by omega
      go_wp2_with fail
      go_ret
      exact ⟨rfl, hx⟩
set_option maxHeartbeats 1000000 in
theorem hasSym_any (l : List Sy) (hl : l.length ≤ 1048576) (h4 : ∀ i (hi : i < l.length), ¬ 4 < l[i].arity) (w : World) (a : Option Addr) (n : Nat) (hsy : IsSyms w a l) :
    Calls Try.prog 66 #[.slice a l.length n, .func (.func 67) #[] #[]] w fun e w' => e = .returned (.bool false) ∧ Ext w w' := by
  have H := Lib.hid (idxSym_any l hl h4 w a n hsy)
  clear hsy h4
  go_enter Try.func66, Try.ntmps66
  go_wp2_with (go_at_call 79; refine (H.out).mono ?_; rintro e w1 ⟨rfl, hx1⟩)
  go_ret
  exact ⟨rfl, hx1⟩
set_option maxHeartbeats 1000000 in
theorem counted_any (l : List Sy) (hl : l.length ≤ 1048576) (hz : sigCheck l = 0) (h4 : ∀ i (hi : i < l.length), ¬ 4 < l[i].arity) (w : World) (a : Option Addr) (n : Nat) (hln : l.length ≤ n) (hn63 : n ≤ 9223372036854775807) (hsy : IsSyms w a l) :
    Calls Try.prog 40 #[.agg #[.slice a l.length n], .int .i64 2] w fun e w' => e = .returned (.bool true) ∧ Ext w w' := by
  obtain ⟨W, hW⟩ : ∃ W, W = w.alloc (.cells #[.slice a l.length n] 24) := ⟨_, rfl⟩
  have hx : Ext w W := by subst hW; go_grown
  have k0 : W.cell? ⟨w.heap.size, 0, none⟩ = some (.slice a l.length n) := by subst hW; go_simp
  have hS := sigCheck_any l hl W a n hln hn63 (hsy.ext hx)
  rw [hz] at hS
  have HS := Lib.hid hS
  have HH := Lib.hid (fun w' (h : Ext W w') => hasSym_any l hl h4 w' a n (hsy.ext (hx.trans h)))
  clear hS hz hsy h4
  go_enter Try.func40, Try.ntmps40
  go_wp2_with (first
    | (go_at_call 29; rw [← hW]; clear hW; refine (HS.out).mono ?_; rintro e w1 ⟨rfl, hx1⟩; replace k0 := hx1.cell k0)
    | (go_at_call 66; refine (HH.out _ hx1).mono ?_; rintro e w2 ⟨rfl, hx2⟩))
  go_ret
  exact ⟨rfl, hx.trans (hx1.trans hx2)⟩
theorem sig31_low : ∀ i (hi : i < sig31.length), ¬ 4 < sig31[i].arity := by decide +kernel
end Go.Proofs.Ytapoedcmhdlpfaa
namespace Go.Proofs.Ytapoedcmhdlpfaa
open Go.ChangeShapes Go.WideShapes Go.ChangeAt Go.RowKit
def lenW (i : Nat) : Nat := if i < 2 then 1 else 2
def tabW (m : Nat) : List (List Nat) := [[1], [m / 16 % 2], [m / 8 % 2, m / 4 % 2], [m / 2 % 2, m % 2]]
def rowW (m i : Nat) : List Nat := (tabW m).getD i []
/-- so many places are passed when row i comes up, from the last one on -/
def baseW (i : Nat) : Nat := if i = 3 then 0 else if i = 2 then 2 else if i = 1 then 4 else 5
/-- the last q places set back -/
def cutW (m q : Nat) : Nat := m / 2 ^ q * 2 ^ q
def onesW (m q : Nat) : Prop := m % 2 ^ q = 2 ^ q - 1
instance (m q : Nat) : Decidable (onesW m q) := by unfold onesW; exact inferInstance
theorem rowW_length (m : Nat) {i : Nat} (hi : i < 4) : (rowW m i).length = lenW i := by
  have : i = 0 ∨ i = 1 ∨ i = 2 ∨ i = 3 := by omega
  rcases this with rfl | rfl | rfl | rfl <;> rfl
theorem rowW_le (m : Nat) {i : Nat} (hi : i < 4) : ∀ x ∈ rowW m i, x ≤ 1 := by
  have : i = 0 ∨ i = 1 ∨ i = 2 ∨ i = 3 := by omega
  rcases this with rfl | rfl | rfl | rfl <;> (intro x hx; simp [rowW, tabW] at hx; omega)
theorem lenW_pow : ∀ i (hi : i < sig31.length), sig31[i].arity = ((sig31[i].arity.toNat : Nat) : Int) ∧ 2 ^ sig31[i].arity.toNat = lenW i ∧ sig31[i].arity.toNat ≤ 6 := by decide +kernel
theorem topW : ∀ i (hi : i < sig31.length), sig31[i].top 2 = 2 := by decide +kernel
theorem lenW_le {i : Nat} : 1 ≤ lenW i ∧ lenW i ≤ 2 := by unfold lenW; split <;> omega
/-- row i put anew at a place, the others as they were -/
def putW (c c' i k x : Nat) : Prop := (rowW c i).set k x = rowW c' i ∧ ∀ n, n < 4 → n ≠ i → rowW c n = rowW c' n
instance (c c' i k x : Nat) : Decidable (putW c c' i k x) := by unfold putW; exact inferInstance
def moreW (m i j : Nat) : Prop := (rowW (cutW m (baseW i + j)) i)[lenW i - 1 - j]? = some 0 ∧ m + 1 < 32 ∧ putW (cutW m (baseW i + j)) (m + 1) i (lenW i - 1 - j) 1
instance (m i j : Nat) : Decidable (moreW m i j) := by unfold moreW; exact inferInstance
def overW (m i j : Nat) : Prop := (rowW (cutW m (baseW i + j)) i)[lenW i - 1 - j]? = some 1 ∧ onesW m (baseW i + (j + 1)) ∧ putW (cutW m (baseW i + j)) (cutW m (baseW i + (j + 1))) i (lenW i - 1 - j) 0
instance (m i j : Nat) : Decidable (overW m i j) := by unfold overW; exact inferInstance
def okW (m i j : Nat) : Prop := 1 ≤ i → j < lenW i → onesW m (baseW i + j) → moreW m i j ∨ overW m i j
instance (m i j : Nat) : Decidable (okW m i j) := by unfold okW; exact inferInstance
theorem stepW : ∀ m, m < 32 → ∀ i, i < 4 → ∀ j, j < 2 → okW m i j := by decide +kernel
theorem baseW_next : ∀ i, i < 4 → 1 ≤ i → baseW i + lenW i = baseW (i - 1) := by decide +kernel
theorem lastW : ∀ m, m < 32 → onesW m (baseW 0) → m = 31 := by decide +kernel
theorem onesW_zero (m : Nat) : onesW m 0 := by simp [onesW]; omega
theorem cutW_zero (m : Nat) : cutW m 0 = m := by simp [cutW]

/-- the iterator's memory: the interpretation, the row of its rows, the rows -/
structure WOwn (wb g cap : Nat) (b : Nat → Nat) (c : Nat) (w : World) : Prop where
  head : Own w wb [.int .i64 2, .slice (some ⟨g, 0, none⟩) 4 cap]
  rows : ∀ i, i < 4 → w.cell? ⟨g, i, none⟩ = some (.slice (some ⟨b i, 0, none⟩) (lenW i) (lenW i))
  cells : ∀ i, i < 4 → Own w (b i) ((rowW c i).map natV)
structure WSep (B wb g : Nat) (b : Nat → Nat) : Prop where
  hwb : B ≤ wb
  hg : B ≤ g
  hwg : wb ≠ g
  hb : ∀ i, i < 4 → B ≤ b i ∧ b i ≠ wb ∧ b i ≠ g
  hne : ∀ i j, i < 4 → j < 4 → i ≠ j → b i ≠ b j
section
variable {B wb g cap c c' : Nat} {b : Nat → Nat} {w w' : World}
theorem WOwn.chg {T : List Nat} (h : WOwn wb g cap b c w) (k : Chg T w w') (h1 : wb ∉ T) (h2 : g ∉ T) (h3 : ∀ i, i < 4 → b i ∉ T) : WOwn wb g cap b c w' :=
  ⟨h.head.chg k h1, fun i hi => k.cell (h.rows i hi) h2, fun i hi => (h.cells i hi).chg k (h3 i hi)⟩
theorem WOwn.ext (h : WOwn wb g cap b c w) (k : Ext w w') : WOwn wb g cap b c w' := h.chg (T := []) (Chg.of_ext k) (by simp) (by simp) (by simp)
theorem WOwn.put (hs : WSep B wb g b) (h : WOwn wb g cap b c w) {i k x : Nat} (hi : i < 4) (hk : k < lenW i) (e0 : putW c c' i k x) :
    WOwn wb g cap b c' (w.setCell ⟨b i, k, none⟩ (.int .i64 (x : Int))) := by
  have hc : Chg [b i] w (w.setCell ⟨b i, k, none⟩ (.int .i64 (x : Int))) := (Chg.refl _ _).setCell (p := ⟨b i, k, none⟩) _ (.inl (by simp))
  have hb := hs.hb i hi
  obtain ⟨e, e2⟩ := e0
  refine ⟨h.head.chg hc (by simp; omega), fun n hn => hc.cell (h.rows n hn) (by simp; omega), fun n hn => ?_⟩
  by_cases hni : n = i
  · subst hni
    have h1 := (h.cells n hn).set (i := k) (by rw [List.length_map, rowW_length _ hn]; exact hk) (.int .i64 (x : Int))
    rw [← e, List.map_set]
    exact h1
  · rw [← e2 n hn hni]
    exact (h.cells n hn).chg hc (by simp; exact fun h => hs.hne n i hn hi hni h)
theorem WOwn.tabs (h : WOwn wb g cap b c w) : IsTabs w (some ⟨g, 0, none⟩) ((List.range 4).map fun i => (rowW c i).map fun (d : Nat) => (d : Int)) := by
  intro i hi
  have hi4 : i < 4 := by simpa using hi
  have hl := rowW_length c hi4
  refine ⟨g, 0, some ⟨b i, 0, none⟩, lenW i, rfl, ?_, ?_, ?_⟩
  · rw [Nat.zero_add, h.rows i hi4]; simp [hl]
  · simp [hl]
  · have := Own.ints (fun x hx => by have := rowW_le c hi4 x hx; omega) (h.cells i hi4)
    simpa using this
end
/-- what is handed out -/
def GivesW (_ : Nat) (args : Array Value) (w : World) : Prop := ∃ tb ta tc, args = #[.agg #[.int .i64 2, .slice ta tb.length tc]] ∧ tb.length = 4 ∧ (∀ r ∈ tb, 1 ≤ r.length ∧ r.length ≤ 1048576) ∧ IsTabs w ta tb
theorem WOwn.gives {wb g cap c : Nat} {b : Nat → Nat} {w : World} (h : WOwn wb g cap b c w) (x : Nat) : GivesW x #[.agg #[.int .i64 2, .slice (some ⟨g, 0, none⟩) 4 cap]] w :=
  ⟨_, _, cap, by simp, by simp, fun r hr => by
    obtain ⟨i, hi, rfl⟩ := List.mem_map.1 hr
    have hi4 : i < 4 := by simpa using hi
    have := rowW_length c hi4
    have := @lenW_le i
    simp; omega, h.tabs⟩
/-- what the iterator reads -/
structure WldNeeds (zb gb mb : Nat) (S : List Nat) (W : World) : Prop where
  size : W.cell? ⟨zb, 0, none⟩ = some (.int .i64 2)
  most : W.cell? ⟨mb, 0, none⟩ = some (.int .i64 1048576)
  sig : ∃ sb so n, W.cell? ⟨gb, 0, none⟩ = some (.slice (some ⟨sb, so, none⟩) 4 n) ∧ sb ∉ S ∧ IsSyms W (some ⟨sb, so, none⟩) sig31
  hz : zb ∉ S
  hm : mb ∉ S
  hgb : gb ∉ S
theorem IsSyms.chg {T : List Nat} {w w' : World} {sb so : Nat} {l : List Sy} (h : IsSyms w (some ⟨sb, so, none⟩) l) (k : Chg T w w') (hT : sb ∉ T) : IsSyms w' (some ⟨sb, so, none⟩) l := fun i hi => by
  obtain ⟨h0, b, o, h1, h2, h3, h4⟩ := h i hi
  injection h1 with h1; injection h1 with e1 e2 _
  subst e1; subst e2
  exact ⟨h0, sb, so, rfl, k.cell h2 hT, k.cell h3 hT, k.cell h4 hT⟩
end Go.Proofs.Ytapoedcmhdlpfaa
namespace Go.Proofs.Ytapoedcmhdlpfaa
open Go.ChangeShapes Go.WideShapes Go.ChangeAt Go.RowKit
def rowsV (b : Nat → Nat) (k : Nat) : List Value := (List.range k).map fun i => .slice (some ⟨b i, 0, none⟩) (lenW i) (lenW i)
theorem rowsV_length (b : Nat → Nat) (k : Nat) : (rowsV b k).length = k := by simp [rowsV]
theorem rowsV_put (b : Nat → Nat) (k x : Nat) : rowsV (fun i => if i = k then x else b i) (k + 1) = rowsV b k ++ [.slice (some ⟨x, 0, none⟩) (lenW k) (lenW k)] := by
  unfold rowsV
  rw [List.range_succ, List.map_append]
  congr 1
  · refine List.map_congr_left fun i hi => ?_
    have := List.mem_range.1 hi
    have hn : i ≠ k := by omega
    simp only [if_neg hn]
  · simp
/-- while the rows are made: k of them -/
def BldRel (W0 : World) (wb k : Nat) (wr : World) : Prop :=
  ∃ (vv : Value) (b : Nat → Nat), GRow eltVal 31 W0.heap.size wr vv (rowsV b k) ∧ Own wr wb [.int .i64 2, vv] ∧
    (∀ i, i < k → W0.heap.size ≤ b i ∧ b i < wr.heap.size ∧ vv.ownBlock ≠ some (b i) ∧ Own wr (b i) ((List.replicate (lenW i) 0).map natV)) ∧ (∀ i j, i < j → j < k → b i ≠ b j) ∧ Chg [wb] W0 wr
theorem BldRel.next {W0 wr w1 w4 : World} {wb k x g cap : Nat} {vv : Value} {b : Nat → Nat} (hwb : wb < W0.heap.size)
    (hrow : GRow eltVal 31 W0.heap.size wr vv (rowsV b k)) (ho : Own wr wb [.int .i64 2, vv])
    (hbs : ∀ i, i < k → W0.heap.size ≤ b i ∧ b i < wr.heap.size ∧ vv.ownBlock ≠ some (b i) ∧ Own wr (b i) ((List.replicate (lenW i) 0).map natV)) (hne : ∀ i j, i < j → j < k → b i ≠ b j) (hch : Chg [wb] W0 wr)
    (hx : Ext wr w1) (hx1 : wr.heap.size ≤ x) (hx2 : x < w1.heap.size) (hO : Own w1 x ((List.replicate (lenW k) 0).map natV))
    (hg : w1.grownBy w4 vv.ownBlock) (hat : vv.ownBlock = some g ∨ g = w1.heap.size)
    (hrow4 : GRow eltVal 31 W0.heap.size w4 (.slice (some ⟨g, 0, none⟩) (k + 1) cap) (rowsV b k ++ [.slice (some ⟨x, 0, none⟩) (lenW k) (lenW k)])) :
    BldRel W0 wb (k + 1) (w4.setCell ⟨wb, 1, none⟩ (.slice (some ⟨g, 0, none⟩) (k + 1) cap)) := by
  have hset := (Chg.refl [wb] w4).setCell (p := ⟨wb, 1, none⟩) (.slice (some ⟨g, 0, none⟩) (k + 1) cap) (.inl (by simp))
  have hge : ∀ q, vv.ownBlock = some q → W0.heap.size ≤ q ∧ q < wr.heap.size := fun q hq => hrow.own_ge hq
  have hs := hch.size
  have h1 := hx.size
  have h4 := hg.size
  have hsz : ∀ v, (w4.setCell ⟨wb, 1, none⟩ v).heap.size = w4.heap.size := fun v => by simp
  have hnx : vv.ownBlock ≠ some x := fun h => by have := (hge _ h).2; omega
  refine ⟨.slice (some ⟨g, 0, none⟩) (k + 1) cap, fun i => if i = k then x else b i, ?_, ?_, fun i hi => ?_, fun i j hij hj => ?_, (chg_append hch hrow (Nat.le_refl _) hx hg).trans hset⟩
  · rw [rowsV_put]
    exact hrow4.chg hset (by simp; omega)
  · exact (own_append (ho.ext hx) hg (fun h => by have := (hge _ h).1; omega)).set (i := 1) (by simp) _
  · have hgi : ∀ y, W0.heap.size ≤ y → y < w1.heap.size → vv.ownBlock ≠ some y → (Value.slice (some ⟨g, 0, none⟩) (k + 1) cap).ownBlock ≠ some y := fun y _ hy hn e => by
      injection e with e
      dsimp only at e
      rcases hat with h | h
      · exact hn (by rw [h, e])
      · omega
    by_cases hik : i = k
    · subst hik
      simp only [if_pos]
      rw [hsz]
      exact ⟨by omega, by omega, hgi x (by omega) hx2 hnx, (own_append hO hg hnx).chg hset (by simp; omega)⟩
    · simp only [if_neg hik]
      rw [hsz]
      obtain ⟨q1, q2, q3, q4⟩ := hbs i (by omega)
      exact ⟨q1, by omega, hgi _ q1 (by omega) q3, (own_append (q4.ext hx) hg q3).chg hset (by simp; omega)⟩
  · have hin : i ≠ k := by omega
    simp only [if_neg hin]
    by_cases hjk : j = k
    · subst hjk
      simp only [if_pos]
      have := (hbs i (by omega)).2.1
      omega
    · simp only [if_neg hjk]
      exact hne i j hij (by omega)
theorem grow_cells {e B : Nat} {w : World} {vv : Value} {b : Nat → Nat} (h : GRow eltVal e B w vv (rowsV b 4)) :
    ∃ g cap, vv = .slice (some ⟨g, 0, none⟩) 4 cap ∧ B ≤ g ∧ g < w.heap.size ∧ ∀ i, i < 4 → w.cell? ⟨g, i, none⟩ = some (.slice (some ⟨b i, 0, none⟩) (lenW i) (lenW i)) := by
  obtain ⟨g, cap, cs, hv, hB, hg, -⟩ := h.at (j := 0) (by rw [rowsV_length]; omega)
  rw [rowsV_length] at hv
  refine ⟨g, cap, hv, hB, hg, fun i hi => ?_⟩
  obtain ⟨g', cap', cs', hv', -, -, -, ⟨hc, -⟩, -, hcell⟩ := h.at (j := i) (by rw [rowsV_length]; omega)
  rw [hv] at hv'
  injection hv' with hv1 _ _
  injection hv1 with hv1
  injection hv1 with hv1 _ _
  subst hv1
  have := hcell 0 _ (by rw [hc]; rfl)
  simpa [eltVal, rowsV] using this
/-- when all rows are made, and the first one is set: the first interpretation -/
theorem BldRel.first {W W0 wr : World} {wb : Nat} (hW : W.heap.size ≤ wb) (hwb : wb < W0.heap.size) (h : BldRel W0 wb 4 wr) :
    ∃ g cap b, WSep W.heap.size wb g b ∧ Own wr wb [.int .i64 2, .slice (some ⟨g, 0, none⟩) 4 cap] ∧ wr.cell? ⟨g, 0, none⟩ = some (.slice (some ⟨b 0, 0, none⟩) 1 1) ∧ Own wr (b 0) [.int .i64 0] ∧ Chg [wb] W0 wr ∧ W0.heap.size ≤ b 0 ∧
      WOwn wb g cap b 0 (wr.setCell ⟨b 0, 0, none⟩ (.int .i64 1)) := by
  obtain ⟨vv, b, hrow, ho, hbs, hne, hch⟩ := h
  obtain ⟨g, cap, rfl, hg1, hg2, hcells⟩ := grow_cells hrow
  have hn : ∀ i, i < 4 → b i ≠ g := fun i hi e => (hbs i hi).2.2.1 (by rw [e]; rfl)
  have hnn : ∀ i j, i < 4 → j < 4 → i ≠ j → b i ≠ b j := fun i j hi hj hij => by
    rcases Nat.lt_or_ge i j with h | h
    · exact hne i j h hj
    · exact (hne j i (by omega) hi).symm
  have h0 := hbs 0 (by omega)
  have hc : Chg [b 0] wr (wr.setCell ⟨b 0, 0, none⟩ (.int .i64 1)) := (Chg.refl _ _).setCell (p := ⟨b 0, 0, none⟩) _ (.inl (by simp))
  refine ⟨g, cap, b, ⟨hW, by omega, by omega, fun i hi => ⟨by have := (hbs i hi).1; omega, by have := (hbs i hi).1; omega, hn i hi⟩, hnn⟩, ho, hcells 0 (by omega), h0.2.2.2, hch, h0.1, ?_⟩
  refine ⟨ho.chg hc (by simp; omega), fun i hi => hc.cell (hcells i hi) (by simp; exact (hn 0 (by omega)).symm), fun i hi => ?_⟩
  have : i = 0 ∨ i = 1 ∨ i = 2 ∨ i = 3 := by omega
  rcases this with rfl | rfl | rfl | rfl
  · exact h0.2.2.2.set (i := 0) (by simp [lenW]) (.int .i64 1)
  · exact (hbs 1 (by omega)).2.2.2.chg hc (by simp; exact hnn 1 0 (by omega) (by omega) (by omega))
  · exact (hbs 2 (by omega)).2.2.2.chg hc (by simp; exact hnn 2 0 (by omega) (by omega) (by omega))
  · exact (hbs 3 (by omega)).2.2.2.chg hc (by simp; exact hnn 3 0 (by omega) (by omega) (by omega))
/-- a cell written twice -/
theorem WOwn.put2 {B wb g cap c c' : Nat} {b : Nat → Nat} {w V : World} (hs : WSep B wb g b) (h : WOwn wb g cap b c w) {i k y x : Nat} (hi : i < 4) (hk : k < lenW i) (hx : Chg [b i] w V) (hO : Own V (b i) (((rowW c i).set k y).map natV)) (e0 : putW c c' i k x) :
    WOwn wb g cap b c' (V.setCell ⟨b i, k, none⟩ (.int .i64 (x : Int))) := by
  have hc : Chg [b i] w (V.setCell ⟨b i, k, none⟩ (.int .i64 (x : Int))) := hx.setCell (p := ⟨b i, k, none⟩) _ (.inl (by simp))
  have hb := hs.hb i hi
  obtain ⟨e, e2⟩ := e0
  refine ⟨h.head.chg hc (by simp; omega), fun n hn => hc.cell (h.rows n hn) (by simp; omega), fun n hn => ?_⟩
  by_cases hni : n = i
  · subst hni
    have h1 := hO.set (i := k) (by rw [List.length_map, List.length_set, rowW_length _ hn]; exact hk) (.int .i64 (x : Int))
    rw [← e]
    have h2 : (List.map natV ((rowW c n).set k y)).set k (.int .i64 (x : Int)) = ((rowW c n).set k x).map natV := by
      rw [List.map_set, List.set_set, List.map_set]; rfl
    rw [h2] at h1
    exact h1
  · rw [← e2 n hn hni]
    exact (h.cells n hn).chg hc (by simp; exact fun h => hs.hne n i hn hi hni h)
theorem mem4 {b : Nat → Nat} {i : Nat} (hi : i < 4) : b i ∈ [b 0, b 1, b 2, b 3] := by
  have : i = 0 ∨ i = 1 ∨ i = 2 ∨ i = 3 := by omega
  rcases this with rfl | rfl | rfl | rfl <;> simp
theorem all4 {b : Nat → Nat} {q : Nat → Prop} (h : ∀ i, i < 4 → q (b i)) : ∀ x ∈ [b 0, b 1, b 2, b 3], q x := by
  intro x hx
  simp at hx
  rcases hx with rfl | rfl | rfl | rfl
  · exact h 0 (by omega)
  · exact h 1 (by omega)
  · exact h 2 (by omega)
  · exact h 3 (by omega)
/-- between two rounds: the m-th one stands -/
def WRel (J : Bool → World → List Nat → List Nat → Prop) (S0 : List Nat) (W : World) (wb g cap : Nat) (b : Nat → Nat) (m : Nat) (wr : World) : Prop :=
  ∃ S' : List Nat, WOwn wb g cap b m wr ∧ Mv S0 W S' wr ∧ J true wr ((List.range 32).take m) S' ∧ wb ∉ S' ∧ g ∉ S' ∧ ∀ i, i < 4 → b i ∉ S'
end Go.Proofs.Ytapoedcmhdlpfaa
namespace Go.Proofs.Ytapoedcmhdlpfaa
open Go.ChangeShapes Go.WideShapes Go.ChangeAt Go.RowKit
attribute [local go_sem] fw_round fw_depth fw_fn Oper.semAt_some
theorem rows_lenW {ar : Int} {k : Nat} (h1 : ar = ((ar.toNat : Nat) : Int)) (h2 : 2 ^ ar.toNat = lenW k) (h3 : ar.toNat ≤ 6) (w : World) : Calls Try.prog 30 #[.int .i64 2, .int .i64 ar] w fun e w' => e = .returned (.int .i64 ((lenW k : Nat) : Int)) ∧ Ext w w' := by
  have h := rows_any 2 ar.toNat (by omega) (by omega) (by omega) w
  rw [← h1] at h
  refine h.mono ?_
  rintro e w' ⟨rfl, hx⟩
  exact ⟨ret_int (by rw [← h2]), hx⟩
set_option maxHeartbeats 8000000 in
set_option maxRecDepth 100000 in
theorem worlds_ok (zb gb mb : Nat) : IterN 68 #[.pointer (some ⟨zb, 0, none⟩), .pointer (some ⟨gb, 0, none⟩), .pointer (some ⟨mb, 0, none⟩)] (List.range 32) GivesW (WldNeeds zb gb mb) := by
  intro y J W S0 hD hlt hj hJ hR dp
  obtain ⟨hz0, hm0, ⟨sb, so, sn, hg0, hsbS, hsy⟩, hzS, hmS, hgS⟩ := hD
  obtain ⟨i0, hi0, hiz, hi1, hi2⟩ := info_parts infoTabs
  have hA := ext_alloc W (.cells #[.int .i64 2, .slice none 0 0] 27)
  have hO0 := own2 W (.int .i64 2) (.slice none 0 0) 27
  refine callsIn_of_wp Try.func68 rfl trivial (wpIn_wide.2 ?_) rfl
  simp only [Try.ntmps68, List.size_toArray, List.length_cons, List.length_nil, Nat.reduceAdd, Nat.reduceSub, Array.replicate_succ, Array.replicate_zero, List.push_toArray, List.append_toArray, List.nil_append, List.cons_append]
  have HR := Lib.hid hR
  have HJ := Lib.hid hJ
  have HSB := Lib.hid hsbS
  clear hR hJ hsbS
  have hz1 := hA.cell hz0
  have hm1 := hA.cell hm0
  have hg1 := hA.cell hg0
  have hsy1 := hsy.ext hA
  go_step3
  go_wp2_with fail
  obtain ⟨W0, hW0⟩ : ∃ W0, W0 = W.alloc (.cells #[.int .i64 2, .slice none 0 0] 27) := ⟨_, rfl⟩
  rw [← hW0] at hA hO0 hz1 hm1 hg1 hsy1 ⊢
  have hWs : W0.heap.size = W.heap.size + 1 := by rw [hW0]; simp
  clear hW0
  have hwl : W.heap.size < W0.heap.size := by omega
  clear hWs
  obtain ⟨wb, hwb⟩ : ∃ wb, wb = W.heap.size := ⟨_, rfl⟩
  rw [← hwb] at hO0 hwl
  rw [← hwb]
  have hwbW : W.heap.size ≤ wb := by omega
  have hzl : zb < wb := by have := cell_lt hz0; simp only at this; omega
  have hml : mb < wb := by have := cell_lt hm0; simp only at this; omega
  have hgl : gb < wb := by have := cell_lt hg0; simp only at this; omega
  have hsbW : sb < W.heap.size := by
    obtain ⟨-, b', o', e, g1, -⟩ := hsy 0 (by decide)
    injection e with e; injection e with e1 e2 _
    subst e1
    exact cell_lt g1
  have hsbw : sb < wb := by omega
  have hzW : zb < W.heap.size := cell_lt hz0
  have hgW : gb < W.heap.size := cell_lt hg0
  have hltw : ∀ x ∈ S0, x < wb := fun x hx => by have := hlt x hx; omega
  clear hwb
  go_loopw [16] (fun i wr => ∃ k : Nat, k ≤ 4 ∧ i = .int .i64 k ∧ BldRel W0 wb k wr) (fun i _ => 4 - (intOf i).toNat)
  case atStart => exact ⟨0, Nat.zero_le _, rfl, _, fun _ => 0, GRow.nil, hO0, fun i hi => by omega, fun i j _ hj => by omega, Chg.refl _ _⟩
  case round =>
    obtain ⟨k, hk4, rfl, hbld⟩ := hrel
    have hch0 : Chg [wb] W0 wr := by obtain ⟨_, _, -, -, -, -, h⟩ := hbld; exact h
    have hz2 := hch0.cell hz1 (by simp; omega)
    have hm2 := hch0.cell hm1 (by simp; omega)
    have hg2 := hch0.cell hg1 (by simp; omega)
    have hsy2 := hsy1.chg hch0 (by simp; omega)
    by_cases hlt4 : k < 4
    · obtain ⟨vv, b, hrow, ho, hbs, hne, hch⟩ := hbld
      have HML := rowsV_length b k
      have hls : k < sig31.length := hlt4
      have hk1 : (k : Int) < 4 := by omega
      obtain ⟨b', o', he, hok, g1, g2, g3⟩ := hsy2.look hls
      injection he with he; injection he with e1 e2 _
      subst e1; subst e2
      obtain ⟨l1, l2, l3⟩ := lenW_pow k hls
      have HRW := Lib.hid (fun w' => rows_lenW l1 l2 l3 w')
      have hln := @lenW_le k
      have hmk := mkN (lenW k) (by omega)
      have hmO := Own.madeN (lenW k)
      generalize sig31[k].name = nm at *
      generalize sig31[k].arity = ar at *
      generalize sig31[k].pred = pr at *
      have HNX := Lib.hid (fun w1 w4 x g cap => BldRel.next (w1 := w1) (w4 := w4) (x := x) (g := g) (cap := cap) hwl hrow ho hbs hne hch)
      obtain ⟨va, vc, hv, hvc⟩ := hrow.form
      rw [HML] at hv hvc
      subst hv
      have Hml := Lib.hid HML
      obtain ⟨q0, r0⟩ := ho 0 _ rfl
      obtain ⟨q1, r1⟩ := ho 1 _ rfl
      have hWr : W0.heap.size ≤ wr.heap.size := hch.size
      have hown2 : ∀ g, (Value.slice va k vc).ownBlock = some g → W0.heap.size ≤ g := fun g hg => (hrow.own_ge hg).1
      clear l1 l2 l3 HML hsy hsy1 hsy2 hbs hne hch hch0 ho
      generalize lenW k = N at *
      go_upto_region 4 with fail
      obtain ⟨U, hU⟩ : ∃ U, U = wr.alloc (.cells #[.string nm, .int .i64 ar, .bool pr] 63) := ⟨_, rfl⟩
      have hxU : Ext wr U := by rw [hU]; exact ext_alloc _ _
      have u1 : U.cell? ⟨wr.heap.size, 1, none⟩ = some (.int .i64 ar) := by rw [hU]; go_simp
      rw [← hU]
      have u2 := hxU.cell q1
      have u3 := hxU.frozen q1 r1
      have u4 := hxU.cell hz2
      clear hU
      go_region_law ((first
        | (go_simp; go_at_call 30; refine (HRW.out _).mono ?_; rintro e w2 ⟨rfl, hx2⟩; (have hx2' : Ext wr w2 := hxU.trans ((Ext.drew (Below.refl _ U)).trans hx2)); (have hA1 := ext_alloc w2 (.cells (madeCells #[.int .i64 0] N) 3)); (have hA2 := ext_alloc (w2.alloc (.cells (madeCells #[.int .i64 0] N) 3)) (.cells #[.slice (some ⟨w2.heap.size, 0, none⟩) N N] 31)); (have d5 := hx2'.cell q1); (have d6 := hx2'.frozen q1 r1); (have d8 := hA1.cell d5); (have d7 := hA2.cell d8))
        | (refine step_append_row rfl (.tmp 21) (.tmp 27) _ rfl 31 i0 _ 24 Try.underlying25 hi0 hiz hi1 hi2 rfl (by decide) W0.heap.size (.slice va k vc) (rowsV b k) (by rfl) wr hrow (hx2'.trans (hA1.trans hA2)) (w2.heap.size + 1) (by rfl) _ _ (by have := heap_alloc_new (w2.alloc (.cells (madeCells #[.int .i64 0] N) 3)) (.cells #[.slice (some ⟨w2.heap.size, 0, none⟩) N N] 31); rwa [World.size_alloc] at this) (.slice (some ⟨w2.heap.size, 0, none⟩) N N) ⟨rfl, rfl⟩ (by rw [Hml.out]; simp only [maxLen]; omega) (by rw [Hml.out]; omega) (Nat.le_trans hWr (hx2'.trans (hA1.trans hA2)).size) ?_; intro g cap w4 hrow4 hgrow hat hlt4; (have hfar : (some (⟨wb, 1, none⟩ : Addr).block) ≠ (Value.slice va k vc).ownBlock := fun e => by have := hown2 _ e.symm; simp only at this; omega); (have hlt5 := cell_lt d7); (have e5 := (hgrow.cell_far ⟨wb, 1, none⟩ hlt5 hfar).trans d7); (have e6 := (hgrow.frozen_far ⟨wb, 1, none⟩ hlt5 hfar).trans (hA2.frozen (hA1.cell d5) (hA1.frozen d5 d6))))))
      all_goals
        go_wp2_with fail
        go_roundw
        case rel =>
          have hrow5 := hrow4
          rw [Hml.out] at hrow5
          rw [Hml.out]
          exact ⟨k + 1, by omega, by go_num, HNX.out _ w4 w2.heap.size g cap (hx2'.trans (hA1.trans hA2)) hx2'.size (by rw [World.size_alloc, World.size_alloc]; omega) ((hmO w2).ext hA2) hgrow hat hrow5⟩
        case measure => simp [intOf]; omega
    · obtain rfl : k = 4 := by omega
      obtain ⟨g, cap, b, hsep, ho, hc0, hob, hch, hb0, hown⟩ := hbld.first hwbW hwl
      obtain ⟨q1, r1⟩ := ho 1 _ rfl
      obtain ⟨q2, r2⟩ := hob 0 _ rfl
      have hb0w : b 0 ≠ wb := (hsep.hb 0 (by omega)).2.1
      clear hbld ho hob hsy2 hz2 hg2 hch0
      go_wp2_with fail
      obtain ⟨V, hV⟩ : ∃ V, V = wr.setCell ⟨b 0, 0, none⟩ (.int .i64 1) := ⟨_, rfl⟩
      have hchV : Chg [wb, b 0] W V := by
        rw [hV]
        exact ((Chg.of_ext hA).trans (hch.mono (by intro k hk; simp at hk; simp [hk]))).setCell (p := ⟨b 0, 0, none⟩) _ (.inl (by simp))
      have hmvV : Mv S0 W S0 V := by
        have h1 : Mv S0 W S0 wr := Mv.own (Mv.of_ext hA) hch (by simp; omega)
        rw [hV]
        exact Mv.own (T := [b 0]) h1 ((Chg.refl _ _).setCell (p := ⟨b 0, 0, none⟩) _ (.inl (by simp))) (by simp; omega)
      have hjV : J true V [] S0 := HJ.out _ _ _ _ _ [wb, b 0] (by
        intro x hx
        simp at hx
        rcases hx with rfl | rfl
        · exact ⟨hwbW, fun h => by have := hltw _ h; omega⟩
        · exact ⟨by omega, fun h => by have := hltw _ h; omega⟩) hj hchV
      rw [← hV] at hown ⊢
      have hwS0 : wb ∉ S0 := fun h => by have := hlt _ h; omega
      have hgS0 : g ∉ S0 := fun h => by have := hlt _ h; have := hsep.hg; omega
      have hbS0 : ∀ i, i < 4 → b i ∉ S0 := fun i hi h => by have := hlt _ h; have := (hsep.hb i hi).1; omega
      have hmV : V.cell? ⟨mb, 0, none⟩ = some (.int .i64 1048576) := hchV.cell hm0 (by simp; omega)
      clear hV q1 q2 r1 r2 hc0
      go_step3
      go_wp2_with fail
      go_loopw [37] (fun i wr => ∃ m : Nat, m < 32 ∧ i = .int .i64 m ∧ WRel J S0 W wb g cap b m wr) (fun i _ => 32 - (intOf i).toNat)
      case atStart => exact ⟨0, by omega, rfl, S0, hown, hmvV, by simpa using hjV, hwS0, hgS0, hbS0⟩
      case round =>
        obtain ⟨m, hm, rfl, S', hO, hmv, hjr, hwS, hgS', hbS⟩ := hrel
        have hkl : m < (List.range 32).length := by simpa using hm
        have hitems := take_snoc hkl
        have hm1' : (m : Int) < 1048576 := by omega
        obtain ⟨q0, r0⟩ := hO.head 0 _ rfl
        obtain ⟨q1, r1⟩ := hO.head 1 _ rfl
        have hz6 := hmv.cell hz0 hzS
        have hg6 := hmv.cell hg0 hgS
        have hzS6 := hmv.out hz0 hzS
        have hgS6 := hmv.out hg0 hgS
        obtain ⟨fn, tmps, assign, body, hyd, hRd⟩ := HR.out ((List.range 32).take m) (List.range 32)[m] ((List.range 32).drop (m + 1)) hitems #[.agg #[.int .i64 2, .slice (some ⟨g, 0, none⟩) 4 cap]] wr S' (hO.gives _) hjr (dp - 1)
        have hrows : ∀ i, i < 4 → b i ∉ S' → (∀ p v, p.block = b i → wr.cell? p = some v → True) := fun _ _ _ _ _ _ _ => trivial
        clear hitems hjr hrows
        refine (wpIn_wide (n := dp)).1 ?_
        gi_wp2
        refine ⟨(fun h => (by cases h)), hRd.mono ?_⟩
        clear hRd hyd
        rintro e w6 ⟨bb, S6, rfl, hmv6, hj6⟩
        have hO6 := hO.chg hmv6.chg hwS hgS' hbS
        have hwS6 : wb ∉ S6 := hmv6.out q0 hwS
        have hgS6' : g ∉ S6 := hmv6.out (hO.rows 0 (by omega)) hgS'
        have hbS6 : ∀ i, i < 4 → b i ∉ S6 := fun i hi => by
          have hl : 0 < (rowW m i).length := by rw [rowW_length m hi]; have := @lenW_le i; omega
          exact hmv6.out (hO.cells i hi 0 _ (natV_at (List.getElem?_eq_getElem hl))).1 (hbS i hi)
        cases bb with
        | false =>
          have HP := Lib.hid (show PostR J S0 W [] (List.range 32) false w6 from ⟨S6, hmv.trans hmv6, .inr ⟨rfl, _, prefix_snoc hkl, by simpa using hj6⟩⟩)
          clear hj6
          gi_wp2
          go_wp2_with fail
          (try rw [Exit.noGoto_ret])
          go_returns
          exact ⟨⟨_, rfl⟩, false, HP.out⟩
        | true =>
          rw [take_snoc' hkl] at hj6
          have HJ6 := Lib.hid hj6
          have hmv7 : Mv S0 W S6 w6 := hmv.trans hmv6
          replace hz6 := hmv6.cell hz6 hzS6
          replace hg6 := hmv6.cell hg6 hgS6
          obtain ⟨q2, r2⟩ := hO6.head 1 _ rfl
          have hsbS' : sb ∉ S' := fun h => by
            rcases hmv.new _ h with h1 | h1
            · exact HSB.out h1
            · omega
          have hsbl : sb < wr.heap.size := by
            have h1 := cell_lt q0
            simp only at h1
            omega
          have hsbS6 : sb ∉ S6 := fun h => by
            rcases hmv6.new _ h with h1 | h1
            · exact hsbS' h1
            · omega
          have hsy6 := (hsy.chg hmv7.chg HSB.out)
          have hnotb : ∀ x, x < W.heap.size → x ∉ [b 0, b 1, b 2, b 3] := fun x hx h => by
            have h1 : W.heap.size ≤ x := all4 (q := fun y => W.heap.size ≤ y) (fun i hi => (hsep.hb i hi).1) x h
            omega
          have hT6 : ∀ x ∈ [b 0, b 1, b 2, b 3], W.heap.size ≤ x ∧ x ∉ S6 := all4 (q := fun y => W.heap.size ≤ y ∧ y ∉ S6) fun i hi => ⟨(hsep.hb i hi).1, hbS6 i hi⟩
          have hT7 : ∀ x ∈ [b 0, b 1, b 2, b 3], W.heap.size ≤ x := fun x hx => (hT6 x hx).1
          have HNB := Lib.hid hnotb
          have HT6 := Lib.hid hT6
          have HT7 := Lib.hid hT7
          clear hnotb hT6 hT7
          clear hj6 hmv hmv6 hO q0 r0 q1 r1 hzS6 hgS6 hwS hgS' hbS hsbS'
          gi_wp2
          refine wpIn_wide.2 ?_
          go_loopw [8] (fun i wr => ∃ n : Nat, n < 4 ∧ i = .int .i64 n ∧ onesW m (baseW n) ∧ WOwn wb g cap b (cutW m (baseW n)) wr ∧ Chg [b 0, b 1, b 2, b 3] w6 wr) (fun i _ => (intOf i).toNat)
          case atStart => exact ⟨3, by omega, rfl, onesW_zero m, by have := cutW_zero m; rw [show baseW 3 = 0 from rfl, this]; exact hO6, Chg.refl _ _⟩
          case round =>
            obtain ⟨n, hn4, rfl, hones, hO, hch6⟩ := hrel
            by_cases hn0 : 0 < n
            · have hn0' : (0 : Int) < (n : Int) := by omega
              have hn4' : (n : Int) < 4 := by omega
              have hnp : (0 : Int) ≤ (n : Int) := by omega
              have hnn : ¬ (n : Int) < 0 := by omega
              obtain ⟨q1, r1⟩ := hO.head 1 _ rfl
              have q3 := hO.rows n hn4
              have hlw := @lenW_le n
              have HST := Lib.hid (stepW m hm n hn4)
              have HBN := Lib.hid (baseW_next n hn4 hn0)
              have hones' := hones
              have hO' := hO
              have HOO := Lib.hid (And.intro hones hO)
              have hrl := fun c => rowW_length c hn4
              obtain ⟨N, hN⟩ : ∃ N, N = lenW n := ⟨_, rfl⟩
              rw [← hN] at q3 hlw
              have HN := Lib.hid hN
              have hwN : IntKind.i64.wrap ((N : Int) - 1) = (N : Int) - 1 := IntWalk.i64_in _ (by omega)
              clear hones hones' hO hO' hN hrl
              go_wp2_with fail
              go_quiet (fail)
              have hxq : Ext wr (wr.drewN nq) := Ext.drewN (Below.refl _ wr) nq
              have hch7 : Chg [b 0, b 1, b 2, b 3] w6 (wr.drewN nq) := hch6.trans (Chg.of_ext hxq)
              have HO7 := Lib.hid (And.intro HOO.out.1 (HOO.out.2.ext hxq))
              clear hxq hch6 q1 r1 q3 HOO
              go_wp2_with fail
              generalize wr.drewN nq = X at *
              go_loopw [9] (fun x wr => ∃ j : Nat, j ≤ N ∧ x = .int .i64 ((N : Int) - 1 - j) ∧ onesW m (baseW n + j) ∧ WOwn wb g cap b (cutW m (baseW n + j)) wr ∧ Chg [b 0, b 1, b 2, b 3] w6 wr) (fun x _ => (intOf x + 1).toNat)
              case atStart => exact ⟨0, Nat.zero_le _, by simp, HO7.out.1, HO7.out.2, hch7⟩
              case round =>
                obtain ⟨j, hjN, rfl, hones, hO, hch8⟩ := hrel
                clear hch7 HO7
                have hz7 := hch8.cell hz6 (HNB.out _ hzW)
                have hg7 := hch8.cell hg6 (HNB.out _ hgW)
                have hsy7 := hsy6.chg hch8 (HNB.out _ hsbW)
                by_cases hjl : j < N
                · obtain ⟨p, hp⟩ : ∃ p : Nat, (N : Int) - 1 - j = p := ⟨N - 1 - j, by omega⟩
                  have hpn : p = N - 1 - j := by omega
                  have hls : n < sig31.length := hn4
                  obtain ⟨b', o', he, hok, s1, s2, s3⟩ := hsy7.look hls
                  injection he with he; injection he with e1 e2 _
                  subst e1; subst e2
                  have htop := topW n hls
                  have HVAL := Lib.hid (fun w' => by have h := values_any sig31[n] 2 w'; rw [htop] at h; exact h)
                  generalize sig31[n].name = nm at *
                  generalize sig31[n].arity = ar at *
                  generalize sig31[n].pred = pr at *
                  rw [hp]
                  have hp0 : (0 : Int) ≤ (p : Int) := by omega
                  have hp1 : ¬ (p : Int) < 0 := by omega
                  have hpi : (p : Int) < (N : Int) := by omega
                  have hplt : p < ((rowW (cutW m (baseW n + j)) n).map natV).length := by rw [List.length_map, rowW_length _ hn4, ← HN.out]; omega
                  have hpl : p < lenW n := by rw [← HN.out]; omega
                  rcases HST.out j (by omega) hn0 (by rw [← HN.out]; exact hjl) hones with ⟨hget, hm32, hput⟩ | ⟨hget, hones1, hput⟩
                  · rw [← HN.out, ← hpn] at hget hput
                    obtain ⟨m1, m2⟩ := hO.cells n hn4 p _ (natV_at hget)
                    replace m1 : wr.cell? ⟨b n, p, none⟩ = some (.int .i64 0) := m1
                    have HOV := Lib.hid (show WOwn wb g cap b (m + 1) (wr.setCell ⟨b n, p, none⟩ (.int .i64 1)) from hO.put hsep hn4 hpl hput)
                    have hchV : Chg [b 0, b 1, b 2, b 3] w6 (wr.setCell ⟨b n, p, none⟩ (.int .i64 1)) := hch8.setCell (p := ⟨b n, p, none⟩) _ (.inl (mem4 hn4))
                    have hcV : Chg [b n] wr (wr.setCell ⟨b n, p, none⟩ (.int .i64 1)) := (Chg.refl _ _).setCell (p := ⟨b n, p, none⟩) _ (.inl (by simp))
                    have hbn := (hsep.hb n hn4).1
                    have n1 : (wr.setCell ⟨b n, p, none⟩ (.int .i64 1)).cell? ⟨b n, p, none⟩ = some (.int .i64 1) := World.cell?_setCell_same _ _ _ m1
                    have hzV := hcV.cell hz7 (by simp; omega)
                    have hgV := hcV.cell hg7 (by simp; omega)
                    replace s1 := hcV.cell s1 (by simp; omega)
                    replace s2 := hcV.cell s2 (by simp; omega)
                    replace s3 := hcV.cell s3 (by simp; omega)
                    have Hp := Lib.hid (And.intro hp hpn)
                    clear hpn hp hget hput hplt hpl hO hones htop hz7 hg7 hsy7 hok
                    go_wp2_with fail
                    obtain ⟨Y, hY⟩ : ∃ Y, Y = wr.setCell ⟨b n, p, none⟩ (.int .i64 1) := ⟨_, rfl⟩
                    rw [← hY] at HOV hchV hcV n1 hzV hgV s1 s2 s3 ⊢
                    clear hY m1 m2 hcV
                    refine wp_region_noPanic ?_
                    refine wp_region_X (by kernel_rfl) (by kernel_rfl) (fun _ _ _ _ _ h => h) (XW.out ?_)
                    iterate 12 (first | (refine xw_skip (by rfl) ?_; simp only [Act.put, List.setIfInBounds_toArray, List.set_cons_zero, List.set_cons_succ]) | (apply xw_want; (focus rfl); (focus (intro v1 hv; have e0 := hv.cell n1; have e1 := hv.cell hgV; have e2 := hv.cell s1; have e3 := hv.cell s2; have e4 := hv.cell s3; have e5 := hv.cell hzV; go_simp; first | done | rfl | exact ⟨rfl, Below.refl _ _⟩ | exact Below.refl _ _ | (with_reducible exact HVAL.out _))); simp only [Act.put, List.setIfInBounds_toArray, List.set_cons_zero, List.set_cons_succ]))
                    refine xw_nil fun w9 hE9 => NoPanic.normal ?_
                    go_wp2_with fail
                    refine wpIn_wide.2 ?_
                    go_wp2_with fail
                    go_roundw
                    case rel =>
                      have hch9 := hchV.trans (Chg.of_ext hE9)
                      have hrel9 : WRel J S0 W wb g cap b (m + 1) w9 := ⟨S6, HOV.out.ext hE9, Mv.own hmv7 hch9 HT7.out, HJ.out _ _ _ _ _ _ HT6.out HJ6.out hch9, hwS6, hgS6', hbS6⟩
                      (repeat apply Exists.intro)
                      refine ⟨?relx, rfl⟩
                      exact ⟨m + 1, hm32, by go_num, hrel9⟩
                    case measure => go_light; simp [intOf]; omega
                  · rw [← HN.out, ← hpn] at hget hput
                    obtain ⟨m1, m2⟩ := hO.cells n hn4 p _ (natV_at hget)
                    replace m1 : wr.cell? ⟨b n, p, none⟩ = some (.int .i64 1) := m1
                    have hOw : Own (wr.setCell ⟨b n, p, none⟩ (.int .i64 2)) (b n) (((rowW (cutW m (baseW n + j)) n).set p 2).map natV) := by
                      have h1 := (hO.cells n hn4).set hplt (.int .i64 ((2 : Nat) : Int))
                      rw [natV_set] at h1
                      exact h1
                    have hchV : Chg [b 0, b 1, b 2, b 3] w6 (wr.setCell ⟨b n, p, none⟩ (.int .i64 2)) := hch8.setCell (p := ⟨b n, p, none⟩) _ (.inl (mem4 hn4))
                    have hcV : Chg [b n] wr (wr.setCell ⟨b n, p, none⟩ (.int .i64 2)) := (Chg.refl _ _).setCell (p := ⟨b n, p, none⟩) _ (.inl (by simp))
                    have hbn := (hsep.hb n hn4).1
                    have n1 : (wr.setCell ⟨b n, p, none⟩ (.int .i64 2)).cell? ⟨b n, p, none⟩ = some (.int .i64 2) := World.cell?_setCell_same _ _ _ m1
                    have n2 : (wr.setCell ⟨b n, p, none⟩ (.int .i64 2)).frozen? ⟨b n, p, none⟩ = false := by rw [World.frozen?_setCell]; exact m2
                    have hzV := hcV.cell hz7 (by simp; omega)
                    have hgV := hcV.cell hg7 (by simp; omega)
                    replace s1 := hcV.cell s1 (by simp; omega)
                    replace s2 := hcV.cell s2 (by simp; omega)
                    replace s3 := hcV.cell s3 (by simp; omega)
                    have Hp := Lib.hid (And.intro hp hpn)
                    have HOV := Lib.hid (fun w9 (hc9 : Chg [b n] wr w9) (ho9 : Own w9 (b n) (((rowW (cutW m (baseW n + j)) n).set p 2).map natV)) => WOwn.put2 hsep hO hn4 hpl hc9 ho9 hput)
                    have HON := Lib.hid hones1
                    clear hpn hp hget hput hplt hpl hO hones htop hz7 hg7 hsy7 hok hones1
                    go_wp2_with fail
                    obtain ⟨Y, hY⟩ : ∃ Y, Y = wr.setCell ⟨b n, p, none⟩ (.int .i64 2) := ⟨_, rfl⟩
                    rw [← hY] at hOw hchV hcV n1 n2 hzV hgV s1 s2 s3 ⊢
                    clear hY m1 m2
                    refine wp_region_noPanic ?_
                    refine wp_region_X (by kernel_rfl) (by kernel_rfl) (fun _ _ _ _ _ h => h) (XW.out ?_)
                    iterate 12 (first | (refine xw_skip (by rfl) ?_; simp only [Act.put, List.setIfInBounds_toArray, List.set_cons_zero, List.set_cons_succ]) | (apply xw_want; (focus rfl); (focus (intro v1 hv; have e0 := hv.cell n1; have e1 := hv.cell hgV; have e2 := hv.cell s1; have e3 := hv.cell s2; have e4 := hv.cell s3; have e5 := hv.cell hzV; go_simp; first | done | rfl | exact ⟨rfl, Below.refl _ _⟩ | exact Below.refl _ _ | (with_reducible exact HVAL.out _))); simp only [Act.put, List.setIfInBounds_toArray, List.set_cons_zero, List.set_cons_succ]))
                    refine xw_nil fun w9 hE9 => NoPanic.normal ?_
                    have t1 := hE9.cell n1
                    have t2 := hE9.frozen n1 n2
                    have hwp : IntKind.i64.wrap ((p : Int) - 1) = (p : Int) - 1 := IntWalk.i64_in _ (by omega)
                    go_wp2_with fail
                    go_roundw
                    case rel =>
                      refine ⟨j + 1, by omega, ?_, HON.out, HOV.out w9 (hcV.trans (Chg.of_ext hE9)) (hOw.ext hE9), (hchV.trans (Chg.of_ext hE9)).setCell (p := ⟨b n, p, none⟩) _ (.inl (mem4 hn4))⟩
                      have := Hp.out.1
                      first | (congr 1; omega) | go_num
                    case measure => simp [intOf] <;> omega
                · have hjn' : j = N := by omega
                  have hi1 : (N : Int) - 1 - (j : Int) = -1 := by omega
                  rw [hi1]
                  have HB := Lib.hid (show onesW m (baseW (n - 1)) ∧ WOwn wb g cap b (cutW m (baseW (n - 1))) wr by
                    rw [hjn', HN.out, HBN.out] at hones hO
                    exact ⟨hones, hO⟩)
                  have hwn : IntKind.i64.wrap ((n : Int) - 1) = (n : Int) - 1 := IntWalk.i64_in _ (by omega)
                  clear hi1 hjn' hones hO
                  go_wp2_with fail
                  go_roundw
                  case rel => exact ⟨n - 1, by omega, by first | (congr 1; omega) | go_num, HB.out.1, HB.out.2, hch8⟩
                  case measure => simp [intOf] <;> omega
            · have hn1 : ¬ (0 : Int) < (n : Int) := by omega
              obtain rfl : n = 0 := by omega
              have hm31 := lastW m hm hones
              have HP := Lib.hid (show PostR J S0 W [] (List.range 32) true wr from ⟨S6, Mv.own hmv7 hch6 HT7.out, .inl ⟨rfl, by
                have h1 := HJ.out _ _ _ _ _ _ HT6.out HJ6.out hch6
                rw [List.take_of_length_le (by rw [List.length_range, hm31]; omega)] at h1
                simpa using h1⟩⟩)
              clear hones hO hm31
              go_wp2_with fail
              refine wpIn_wide.2 ?_
              go_wp2_with fail
              (try rw [Exit.noGoto_ret])
              go_returns
              exact ⟨⟨_, rfl⟩, true, HP.out⟩
end Go.Proofs.Ytapoedcmhdlpfaa
namespace Go.Proofs.Ytapoedcmhdlpfaa
open Go.ChangeShapes Go.WideShapes Go.ChangeAt Go.RowKit
attribute [local go_sem] fw_round fw_depth fw_fn Oper.semAt_some
def laysSy_ren : Go.Shelf.Ren := ⟨fun | 41 => 38 | n => n, fun | 22 => 22 | 23 => 63 | 4 => 4 | n => n, fun | n => n⟩
theorem laysSy : Go.Proofs.SlLaysE0.n41 Try.prog laysSy_ren := {
  mixed := by kernel_rfl
  f41 := ⟨Try.f38.name, by decide, Try.func38.trans (congrArg some (by kernel_rfl))⟩
  t4 := Try.underlying4
  a4 := Try.isAgg4
  z4 := Try.sizeOf4
  v4 := Try.zeroValue4
  t22 := Try.underlying22
  a22 := Try.isAgg22
  z22 := Try.sizeOf22
  v22 := Try.zeroValue22 }
theorem infoSy : (Try.prog.info? 63).map (fun i => (i.zero, i.size, i.bytes)) = some (some (.agg #[.string ⟨#[]⟩, .int .i64 0, .bool false]), 3, 32) := by kernel_rfl
def symCells : List Value := (sig31.map fun s => [Value.string s.name, .int .i64 s.arity, .bool s.pred]).flatten
theorem symCells_at : ∀ i (hi : i < 4), symCells[i * 3]? = some (.string (sig31[i]'hi).name) ∧ symCells[i * 3 + 1]? = some (.int .i64 (sig31[i]'hi).arity) ∧ symCells[i * 3 + 2]? = some (.bool (sig31[i]'hi).pred) := by
  intro i hi
  have : i = 0 ∨ i = 1 ∨ i = 2 ∨ i = 3 := by omega
  rcases this with rfl | rfl | rfl | rfl <;> exact ⟨rfl, rfl, rfl⟩
theorem symCells_split {j : Nat} {u : Value} (h : symCells[j]? = some u) : ∃ i k, i < 4 ∧ k < 3 ∧ j = i * 3 + k := by
  have hj : j < 12 := by
    rcases Nat.lt_or_ge j 12 with h1 | h1
    · exact h1
    · rw [List.getElem?_eq_none (by show 12 ≤ j; exact h1)] at h; cases h
  exact ⟨j / 3, j % 3, by omega, by omega, by omega⟩
theorem cloneSy_any (w : World) (b o n : Nat) (hsy : IsSyms w (some ⟨b, o, none⟩) sig31) :
    Calls Try.prog 38 #[.slice (some ⟨b, o, none⟩) 4 n] w fun e w' => (∃ g c, e = .returned (.slice (some ⟨g, 0, none⟩) 4 c) ∧ 4 ≤ c ∧ c ≤ 9223372036854775807 ∧ w.heap.size ≤ g ∧ IsSyms w' (some ⟨g, 0, none⟩) sig31) ∧ Ext w w' := by
  obtain ⟨i0, hi0, hz0, hz1, hz2⟩ := info_parts infoSy
  have hcell : ∀ i (hi : i < 4), w.cell? ⟨b, o + i * 3, none⟩ = some (.string (sig31[i]'hi).name) ∧ w.cell? ⟨b, o + i * 3 + 1, none⟩ = some (.int .i64 (sig31[i]'hi).arity) ∧ w.cell? ⟨b, o + i * 3 + 2, none⟩ = some (.bool (sig31[i]'hi).pred) := by
    intro i hi
    obtain ⟨-, b', o', e, h1, h2, h3⟩ := hsy i hi
    injection e with e; injection e with e1 e2 _
    subst e1; subst e2
    exact ⟨h1, h2, h3⟩
  have hc : ∀ j u, symCells[j]? = some u → w.cell? ⟨b, o + j, none⟩ = some u := by
    intro j u hu
    obtain ⟨i, k, hi, hk, rfl⟩ := symCells_split hu
    obtain ⟨s1, s2, s3⟩ := symCells_at i hi
    obtain ⟨h1, h2, h3⟩ := hcell i hi
    have : k = 0 ∨ k = 1 ∨ k = 2 := by omega
    rcases this with rfl | rfl | rfl
    · rw [Nat.add_zero, s1] at hu; rw [Nat.add_zero, h1]; exact hu
    · rw [s2] at hu; rw [← Nat.add_assoc, h2]; exact hu
    · rw [s3] at hu; rw [← Nat.add_assoc, h3]; exact hu
  refine (AnyE.slices_Clone laysSy i0 _ 3 32 hi0 hz0 hz1 hz2 (by rfl) (by omega) Try.sizeOf63 b o 4 n symCells w (by rfl) (by decide) (by decide) hc ?_).mono ?_
  · intro u hu
    obtain ⟨j, hj, rfl⟩ := List.getElem_of_mem hu
    obtain ⟨i, k, hi, hk, he⟩ := symCells_split (List.getElem?_eq_getElem hj)
    have h0 := List.getElem?_eq_getElem hj
    obtain ⟨s1, s2, s3⟩ := symCells_at i hi
    have : k = 0 ∨ k = 1 ∨ k = 2 := by omega
    rcases this with rfl | rfl | rfl
    · rw [Nat.add_zero] at he; subst he; rw [s1] at h0; have h1 := Option.some.inj h0; rw [← h1]; rfl
    · subst he; rw [s2] at h0; have h1 := Option.some.inj h0; rw [← h1]; rfl
    · subst he; rw [s3] at h0; have h1 := Option.some.inj h0; rw [← h1]; rfl
  · rintro e w' ⟨v', rfl, ho, -, hx⟩
    obtain ⟨g, cap, rfl, hg, -⟩ := ho.form (by omega)
    have hcap : 4 ≤ cap ∧ cap ≤ 9223372036854775807 := by
      obtain ⟨-, ⟨h1, -⟩ | ⟨g', cap', cur, h1, -, -, h2, h3, -⟩⟩ := ho
      · cases h1
      · injection h1 with _ _ h1
        subst h1
        exact ⟨h2, by simpa [maxLen] using h3⟩
    refine ⟨⟨g, cap, rfl, hcap.1, hcap.2, hg, sig31_syms fun i hi => ?_⟩, hx⟩
    have hat : ∀ j u, symCells[j]? = some u → w'.cell? ⟨g, 0 + j, none⟩ = some u := fun j u hu => by have := ho.cells (g := g) rfl j u hu; rw [add_plain] at this; exact this
    obtain ⟨s1, s2, s3⟩ := symCells_at i hi
    exact ⟨hat _ _ s1, hat _ _ s2, hat _ _ s3⟩
set_option maxHeartbeats 1000000 in
theorem mkWorlds_any (a : Option Addr) (n : Nat) (w : World) : Calls Try.prog 41 #[.agg #[.slice a 4 n], .int .i64 2, .int .i64 1048576] w fun e w' => ∃ zb gb mb, e = .returned (.func (.func 68) #[] #[.pointer (some ⟨zb, 0, none⟩), .pointer (some ⟨gb, 0, none⟩), .pointer (some ⟨mb, 0, none⟩)]) ∧ w'.cell? ⟨zb, 0, none⟩ = some (.int .i64 2) ∧ w'.cell? ⟨gb, 0, none⟩ = some (.slice a 4 n) ∧ w'.cell? ⟨mb, 0, none⟩ = some (.int .i64 1048576) ∧ w.heap.size ≤ zb ∧ w.heap.size ≤ gb ∧ w.heap.size ≤ mb ∧ Ext w w' := by
  obtain ⟨W, hW⟩ : ∃ W, W = ((w.alloc (.cells #[.slice a 4 n] 24)).alloc (.cells #[.int .i64 2] 3)).alloc (.cells #[.int .i64 1048576] 3) := ⟨_, rfl⟩
  have hx : Ext w W := by rw [hW]; go_grown
  have c0 : W.cell? ⟨w.heap.size, 0, none⟩ = some (.slice a 4 n) := by rw [hW]; go_simp
  have c1 : W.cell? ⟨w.heap.size + 1, 0, none⟩ = some (.int .i64 2) := by rw [hW]; go_simp
  have c2 : W.cell? ⟨w.heap.size + 1 + 1, 0, none⟩ = some (.int .i64 1048576) := by rw [hW]; go_simp
  have H := Lib.hid (And.intro hx (And.intro c0 (And.intro c1 c2)))
  have HW := Lib.hid hW
  clear hx c0 c1 c2 hW
  go_enter Try.func41, Try.ntmps41
  go_wp2_with fail
  rw [← HW.out]
  go_ret
  exact ⟨_, _, _, rfl, H.out.2.2.1, H.out.2.1, H.out.2.2.2, by omega, Nat.le_refl _, by omega, H.out.1⟩
theorem IsTabs.kept {w w' : World} {a : Option Addr} {tb : List (List Int)} (h : IsTabs w a tb) (hk : ∀ p v, w.cell? p = some v → w'.cell? p = some v) : IsTabs w' a tb := fun i hi => by
  obtain ⟨b, o, a', c', h1, h2, h3, h4⟩ := h i hi
  refine ⟨b, o, a', c', h1, hk _ _ h2, h3, fun j hj => ?_⟩
  obtain ⟨k1, k2, b2, o2, k3, k4⟩ := h4 j hj
  exact ⟨k1, k2, b2, o2, k3, hk _ _ k4⟩
/-- what the iterator reads -/
structure WsNeeds (ob zb : Nat) (S : List Nat) (W : World) : Prop where
  own : ∃ sb n, W.cell? ⟨ob, 0, none⟩ = some (.slice (some ⟨sb, 0, none⟩) 4 n) ∧ 4 ≤ n ∧ n ≤ 9223372036854775807 ∧ sb ∉ S ∧ IsSyms W (some ⟨sb, 0, none⟩) sig31
  size : W.cell? ⟨zb, 0, none⟩ = some (.int .i64 2)
def OneArg (_ : Nat) (args : Array Value) (_ : World) : Prop := args.size = 1
/-- between two rounds over the inner iterator -/
structure WsJ (y yb D : Nat) (J : Bool → World → List Nat → List Nat → Prop) (w : World) (pre : List Nat) (S : List Nat) : Prop where
  j : J true w pre S
  cell : w.cell? ⟨yb, 0, none⟩ = some (.func (.yield y) #[] #[])
  hy : yb ∉ S
  hD : D ∉ S
structure WsX (D : Nat) (J : Bool → World → List Nat → List Nat → Prop) (cd : Code) (w : World) (pre : List Nat) (S : List Nat) : Prop where
  hcd : cd = .ret
  j : J false w pre S
  hD : D ∉ S
set_option maxHeartbeats 8000000 in
set_option maxRecDepth 100000 in
theorem ws_ok (ob zb : Nat) : IterN 39 #[.pointer (some ⟨ob, 0, none⟩), .pointer (some ⟨zb, 0, none⟩)] (List.range 32) OneArg (WsNeeds ob zb) := by
  intro y J W S0 hD hlt hj hJ hR dp
  obtain ⟨⟨sb, sn, ho0, hsn, hsn63, hsbS, hsy⟩, hz0⟩ := hD
  have HR := Lib.hid hR
  have HJ := Lib.hid hJ
  have HSN := Lib.hid (And.intro hsn hsn63)
  have hsbW : sb < W.heap.size := by
    obtain ⟨-, b', o', e, g1, -⟩ := hsy 0 (by decide)
    injection e with e; injection e with e1 e2 _
    subst e1
    exact cell_lt g1
  obtain ⟨Wy, hWy⟩ : ∃ Wy, Wy = W.alloc (.cells #[.func (.yield y) #[] #[]] 73) := ⟨_, rfl⟩
  have hA : Ext W Wy := by rw [hWy]; exact ext_alloc _ _
  have yc : Wy.cell? ⟨W.heap.size, 0, none⟩ = some (.func (.yield y) #[] #[]) := by rw [hWy]; go_simp
  have ho1 := hA.cell ho0
  have hz1 := hA.cell hz0
  have ho2 := ho1
  have hz2 := hz1
  rw [hWy] at ho2 hz2
  have HC := Lib.hid (counted_any sig31 (by decide) sig31_check sig31_low Wy (some ⟨sb, 0, none⟩) sn hsn hsn63 (hsy.ext hA))
  have HM := Lib.hid (fun w' => mkWorlds_any (some ⟨sb, 0, none⟩) sn w')
  have HWy := Lib.hid hWy
  have HSY := Lib.hid hsy
  clear hR hJ hWy hsy hsn hsn63
  refine callsIn_of_wp_marks (n := dp) Try.func39 rfl trivial (wpIn_wide.2 ?_)
  simp only [Try.ntmps39, List.size_toArray, List.length_cons, List.length_nil, Nat.reduceAdd, Nat.reduceSub, Array.replicate_succ, Array.replicate_zero, List.push_toArray, List.append_toArray, List.nil_append, List.cons_append]
  go_wp2_with (first
    | (go_at_call 40; rw [← HWy.out]; clear ho2 hz2; refine (HC.out).mono ?_; rintro e w1 ⟨rfl, hx1⟩; replace ho1 := hx1.cell ho1; replace hz1 := hx1.cell hz1; replace yc := hx1.cell yc)
    | (go_at_call 41; refine (HM.out _).mono ?_; rintro e w3 ⟨zb2, gb2, mb2, rfl, n1, n2, n3, hb1, hb2, hb3, hx3⟩))
  have hxw3 : Ext W w3 := hA.trans (hx1.trans hx3)
  replace yc := hx3.cell yc
  have hW1 : W.heap.size < w1.heap.size := by
    have h1 := hx1.size
    have h2 : Wy.heap.size = W.heap.size + 1 := by rw [HWy.out]; simp
    omega
  have h13 : w1.heap.size ≤ w3.heap.size := hx3.size
  have hz3 := cell_lt n1
  have hg3 := cell_lt n2
  have hm3 := cell_lt n3
  simp only at hz3 hg3 hm3
  have hyS0 : W.heap.size ∉ S0 := fun h => by have := hlt _ h; omega
  have hDS0 : w3.heap.size ∉ S0 := fun h => by have := hlt _ h; omega
  have hns : ∀ b, W.heap.size ≤ b → b < w3.heap.size → b ∉ (w3.heap.size :: (w3.heap.size + 1) :: S0) := fun b h1 h2 h => by
    simp at h
    rcases h with h | h | h
    · omega
    · omega
    · have := hlt _ h; omega
  refine (wpIn_wide (n := dp)).1 ?_
  refine wpIn_rangeFunc_new (n := dp) (gf := 68) (lb := #[.pointer (some ⟨zb2, 0, none⟩), .pointer (some ⟨gb2, 0, none⟩), .pointer (some ⟨mb2, 0, none⟩)]) (by rfl) (fun _ _ => rfl) (worlds_ok zb2 gb2 mb2) (fun x args w h => by obtain ⟨_, _, _, rfl, -⟩ := h; rfl)
    S0 (WsJ y W.heap.size w3.heap.size J) (WsX w3.heap.size J) ?hD ?hS0 ?h0 ?hJ ?hJx ?hJn ?hJxn ?body ?done ?stop
  case hD =>
    intro w' hw'
    exact ⟨hw'.cell n1, hw'.cell n3, ⟨sb, 0, sn, hw'.cell n2, fun h => by
      simp at h
      rcases h with h | h | h
      · omega
      · omega
      · exact hsbS h, HSY.out.ext (hxw3.trans hw')⟩, hns _ (by omega) hz3, hns _ (by omega) hm3, hns _ (by omega) hg3⟩
  case hS0 => intro b hb; have := hlt b hb; omega
  case h0 => exact ⟨HJ.out _ _ _ _ _ [] (by simp) hj (Chg.of_ext hxw3), yc, hyS0, hDS0⟩
  case hJ =>
    intro u1 u2 s S hne h k
    exact ⟨HJ.out _ _ _ _ _ _ (by intro x hx; simp at hx; subst hx; exact ⟨by omega, fun hh => hne _ hh rfl⟩) h.j k, k.cell h.cell (by simp; omega), h.hy, h.hD⟩
  case hJx =>
    intro c u1 u2 s S hne h k
    exact ⟨h.hcd, HJ.out _ _ _ _ _ _ (by intro x hx; simp at hx; subst hx; exact ⟨by omega, fun hh => hne _ hh rfl⟩) h.j k, h.hD⟩
  case hJn =>
    intro u1 u2 s S T hT h k
    exact ⟨HJ.out _ _ _ _ _ _ (fun x hx => ⟨by have := (hT x hx).1; omega, (hT x hx).2⟩) h.j k, k.cell h.cell (fun hh => by have := (hT _ hh).1; simp only at this; omega), h.hy, h.hD⟩
  case hJxn =>
    intro c u1 u2 s S T hT h k
    exact ⟨h.hcd, HJ.out _ _ _ _ _ _ (fun x hx => ⟨by have := (hT x hx).1; omega, (hT x hx).2⟩) h.j k, h.hD⟩
  case done =>
    intro V S hm hjj hK
    have hl := (Array.getElem?_eq_some_iff.1 hK).1
    have HP := Lib.hid (show PostR J S0 W [] (List.range 32) true (V.putObj w3.heap.size (.deferred none)) from ⟨S, Mv.own (Mv.ext_left hxw3 hm) (chg_putObj V w3.heap.size (.deferred none)) (by simp; omega), .inl ⟨rfl, HJ.out _ _ _ _ _ _ (by intro x hx; simp at hx; subst hx; exact ⟨by omega, hjj.hD⟩) (by simpa using hjj.j) (chg_putObj V w3.heap.size (.deferred none))⟩⟩)
    clear hjj hm
    go_wp2_with fail
    (try rw [Exit.noGoto_ret])
    exact leaves_mark (v := .tuple #[]) rfl hK (by simp [results, Try.results39, go_sem]) ⟨⟨_, rfl⟩, true, HP.out⟩
  case stop =>
    intro cd q V S hq hm hjj hK
    have hl := (Array.getElem?_eq_some_iff.1 hK).1
    have HP := Lib.hid (show PostR J S0 W [] (List.range 32) false (V.putObj w3.heap.size (.deferred none)) from ⟨S, Mv.own (Mv.ext_left hxw3 hm) (chg_putObj V w3.heap.size (.deferred none)) (by simp; omega), .inr ⟨rfl, q, hq, HJ.out _ _ _ _ _ _ (by intro x hx; simp at hx; subst hx; exact ⟨by omega, hjj.hD⟩) (by simpa using hjj.j) (chg_putObj V w3.heap.size (.deferred none))⟩⟩)
    obtain rfl := hjj.hcd
    clear hjj hm
    gi_wp2
    (try rw [Exit.noGoto_ret])
    exact leaves_mark (v := .tuple #[]) rfl hK (by simp [results, Try.results39, go_sem]) ⟨⟨_, rfl⟩, false, HP.out⟩
  case body =>
    intro pre x rest hitems args V S m hG hjj hSne hVl
    obtain ⟨tb, ta, tc, rfl, htl, hr, hT⟩ := hG
    have hB := ext_alloc V (.cells #[.int .i64 2, .slice ta 4 tc] 27)
    obtain ⟨v0, v1⟩ := cells2 V (.int .i64 2) (.slice ta 4 tc) 27
    have HTL := Lib.hid (And.intro htl (And.intro hr hT))
    clear hr hT
    gi_wp2
    intro V2 hc2 hcell2
    refine ⟨Mv.of_ext hB, ?_⟩
    have hT2 : IsTabs V2 ta tb := (HTL.out.2.2.ext hB).kept hcell2
    have e0 := hcell2 _ _ v0
    have e1 := hcell2 _ _ v1
    have ey := hcell2 _ _ (hB.cell hjj.cell)
    have hV2 : w3.heap.size < V2.heap.size := by have h1 := hB.size; have h2 := hc2.size; omega
    have hj2 : J true V2 pre S := HJ.out _ _ _ _ _ _ (by intro x hx; simp at hx; subst hx; exact ⟨by omega, fun hh => (hSne _ hh).2 rfl⟩) (HJ.out _ _ _ _ _ [] (by simp) hjj.j (Chg.of_ext hB)) hc2
    have HCP := Lib.hid (fun w' (h : Ext V2 w') => by have h1 := copied_any 2 tb (by have := HTL.out.1; omega) HTL.out.2.1 w' ta tc (hT2.ext h); rw [HTL.out.1] at h1; exact h1)
    have HJ2 := Lib.hid (fun w' (h : Ext V2 w') => HJ.out true V2 w' pre S [] (by simp) hj2 (Chg.of_ext h))
    have HJJ := Lib.hid (And.intro hjj.hy hjj.hD)
    clear hc2 hcell2 hB v0 v1 hjj hj2 hT2 htl
    gi_wp2
    refine wpIn_region_noPanic ?_
    refine wpIn_region_AnI (by kernel_rfl) ?_
    refine AnI.walkZ Ext [0, 1] [2] (by kernel_rfl) goes_ext (by kernel_rfl) (fun _ _ _ _ _ h => h) ?_
    iterate 2 (apply wpS_open; (focus (simp only [List.getElem?_toArray, List.getElem?_cons_succ, List.getElem?_cons_zero]; rfl)); first | (refine St_skip (by rfl) ?_; simp only [Act.put, List.setIfInBounds_toArray, List.set_cons_zero, List.set_cons_succ]) | (apply St_want; (focus rfl); (focus (intro v1 hv; have hv2 := ext_base hv; have g0 := hv2.cell ey; have g1 := hv2.cell e0; have g2 := hv2.cell e1; go_simp; first | done | rfl)); simp only [Act.put, List.setIfInBounds_toArray, List.set_cons_zero, List.set_cons_succ]))
    refine wpS_nil (fun u1 hu1 => ?_)
    have hx1' : Ext V2 u1 := ext_base hu1
    refine AnZ.one goes_ext (i := 2) (by (simp only [List.getElem?_toArray, List.getElem?_cons_succ, List.getElem?_cons_zero]; rfl)) (by kernel_rfl) (by rfl) (fun K hK => ?_)
    go_simp
    refine callsFw.2 ((HCP.out _ hx1').mono ?_)
    rintro e u0 ⟨⟨v, rfl⟩, hx0⟩
    refine hK _ _ hx0 (fun u2 hx2 => ?_)
    clear hK
    have hxu : Ext V2 u2 := hx1'.trans (hx0.trans hx2)
    obtain ⟨fn, tmps, assign, body, hyd, hRd⟩ := HR.out pre x rest hitems #[v] u2 S rfl (HJ2.out _ hxu) (m - 1)
    refine AnZ.last (i := 3) (by (simp only [List.getElem?_toArray, List.getElem?_cons_succ, List.getElem?_cons_zero]; rfl)) (by kernel_rfl) (by rfl) (by rfl) (fun K hK => ?_)
    go_simp
    refine hRd.mono ?_
    clear hRd hyd
    rintro e u3 ⟨bb, S3, rfl, hmv, hj3⟩
    refine hK _ _ ?_
    clear hK
    refine AnZ.last (i := 4) (by (simp only [List.getElem?_toArray, List.getElem?_cons_succ, List.getElem?_cons_zero]; rfl)) (by kernel_rfl) (by rfl) (by rfl) (fun K hK => ?_)
    go_simp
    refine hK _ _ ?_
    clear hK
    refine AnZ.done (by kernel_rfl) ?_
    refine NoPanic.normal ?_
    have hmv2 : Mv S V2 S3 u3 := Mv.ext_left hxu hmv
    have hD3 : w3.heap.size ∉ S3 := fun h => by
      rcases hmv2.new _ h with h1 | h1
      · exact HJJ.out.2 h1
      · omega
    cases bb with
    | false =>
      have HX := Lib.hid (show Mv S V2 S3 u3 ∧ WsX w3.heap.size J .ret u3 (pre ++ [x]) S3 from ⟨hmv2, rfl, hj3, hD3⟩)
      rw [Bool.not_false]
      clear hj3 hmv hmv2
      gi_wp2
      exact ⟨S3, HX.out⟩
    | true =>
      have HX := Lib.hid (show Mv S V2 S3 u3 ∧ WsJ y W.heap.size w3.heap.size J u3 (pre ++ [x]) S3 from ⟨hmv2, hj3, hmv2.cell ey HJJ.out.1, hmv2.out ey HJJ.out.1, hD3⟩)
      rw [Bool.not_true]
      clear hj3 hmv hmv2
      gi_wp2
      exact ⟨S3, HX.out⟩
end Go.Proofs.Ytapoedcmhdlpfaa
namespace Go.Proofs.Ytapoedcmhdlpfaa
open Go.ChangeShapes Go.WideShapes Go.ChangeAt Go.RowKit
def Lt.size (x : Lt) : Nat := if x.r.isTrue = true then x.l.size else x.l.size + x.r.size
def clSize : List Lt → Nat
  | [] => 0
  | x :: c => x.size + clSize c
theorem clSize_take {c : List Lt} {k : Nat} (h : k < c.length) : clSize (c.take (k + 1)) = clSize (c.take k) + c[k].size := by
  induction c generalizing k with
  | nil => simp at h
  | cons x c ih =>
    cases k with
    | zero => simp [clSize]
    | succ k => simp only [List.take_succ_cons, clSize, List.getElem_cons_succ]; rw [ih (by simpa using h)]; omega
theorem clSize_le {c : List Lt} (h : ∀ x ∈ c, x.sized) : clSize c ≤ 4194304 * c.length := by
  induction c with
  | nil => simp [clSize]
  | cons x c ih =>
    have h1 := ih fun y hy => h y (List.mem_cons_of_mem _ hy)
    obtain ⟨h2, h3⟩ := h x List.mem_cons_self
    have h4 : x.size ≤ 4194304 := by unfold Lt.size; split <;> omega
    simp only [clSize, List.length_cons]
    omega
set_option maxHeartbeats 2000000 in
set_option maxRecDepth 100000 in
theorem refLit_any (x : Lt) (hx : x.sized) (w : World) (la ra : Option Addr) (lc rc : Nat) (hL : IsTm w (.int .i64 x.l.f) (.slice la x.l.ks.length lc) x.l) (hR : IsTm w (.int .i64 x.r.f) (.slice ra x.r.ks.length rc) x.r) :
    Calls Try.prog 36 #[.agg #[.bool x.neg, .int .i64 x.l.f, .slice la x.l.ks.length lc, .int .i64 x.r.f, .slice ra x.r.ks.length rc]] w fun e w' => e = .returned (.int .i64 (x.size : Nat)) ∧ Ext w w' := by
  obtain ⟨hx1, hx2⟩ := hx
  obtain ⟨W, hW⟩ : ∃ W, W = w.alloc (.cells #[.bool x.neg, .int .i64 x.l.f, .slice la x.l.ks.length lc, .int .i64 x.r.f, .slice ra x.r.ks.length rc] 49) := ⟨_, rfl⟩
  have hA : Ext w W := by rw [hW]; exact ext_alloc _ _
  obtain ⟨m0, m1, m2, m3, m4⟩ := cells5 w (.bool x.neg) (.int .i64 x.l.f) (.slice la x.l.ks.length lc) (.int .i64 x.r.f) (.slice ra x.r.ks.length rc) 49
  rw [← hW] at m0 m1 m2 m3 m4
  have H1 := Lib.hid (fun w' (h : Ext W w') => refSize_any x.l w' _ _ (hL.ext (hA.trans h)) (by omega))
  have H2 := Lib.hid (fun w' (h : Ext W w') => refTrue_any x.r w' _ _ (hR.ext (hA.trans h)))
  have H3 := Lib.hid (fun w' (h : Ext W w') => refSize_any x.r w' _ _ (hR.ext (hA.trans h)) (by omega))
  have hsz : x.size = if x.r.isTrue = true then x.l.size else x.l.size + x.r.size := rfl
  generalize x.size = Z at *
  generalize x.l.size = s1 at *
  generalize x.r.size = s2 at *
  generalize x.l.f = lf at *
  generalize x.r.f = rf at *
  generalize x.l.ks.length = ll at *
  generalize x.r.ks.length = rl at *
  generalize x.neg = neg at *
  clear hL hR
  cases ht : x.r.isTrue with
  | true =>
    rw [ht] at H2
    have HZ := Lib.hid (show Z = s1 by rw [hsz, if_pos ht])
    clear hsz
    go_enter Try.func36, Try.ntmps36
    go_wp2_with (first
      | (go_at_call 5; rw [← hW]; clear hW; refine (H1.out _ (Below.refl _ _)).mono ?_; rintro e w1 ⟨rfl, hx1⟩; replace m3 := hx1.cell m3; replace m4 := hx1.cell m4)
      | (go_at_call 57; refine (H2.out _ hx1).mono ?_; rintro e w2 ⟨rfl, hx2⟩))
    go_ret
    exact ⟨ret_int (by rw [HZ.out]), hA.trans (hx1.trans hx2)⟩
  | false =>
    rw [ht] at H2
    have HZ := Lib.hid (show Z = s1 + s2 by rw [hsz, if_neg (by rw [ht]; simp)])
    clear hsz
    go_enter Try.func36, Try.ntmps36
    go_wp2_with (first
      | (go_at_call 5; rw [← hW]; clear hW; refine (H1.out _ (Below.refl _ _)).mono ?_; rintro e w1 ⟨rfl, hx1⟩; replace m3 := hx1.cell m3; replace m4 := hx1.cell m4)
      | (go_at_call 57; refine (H2.out _ hx1).mono ?_; rintro e w2 ⟨rfl, hx2⟩; replace m3 := hx2.cell m3; replace m4 := hx2.cell m4)
      | (go_at_call 5; refine (H3.out _ (hx1.trans hx2)).mono ?_; rintro e w3 ⟨rfl, hx3⟩))
    go_ret
    exact ⟨ret_int (by rw [HZ.out]; omega), hA.trans (hx1.trans (hx2.trans hx3))⟩
set_option maxHeartbeats 2000000 in
set_option maxRecDepth 100000 in
theorem refClSize_any (c : List Lt) (hcs : ∀ x ∈ c, x.sized) (hcl : c.length ≤ 1048576) (w : World) (ca : Option Addr) (cn : Nat) (hc : IsLits w ca c) :
    Calls Try.prog 13 #[.slice ca c.length cn] w fun e w' => e = .returned (.int .i64 (clSize c : Nat)) ∧ Ext w w' := by
  go_enter Try.func13, Try.ntmps13
  go_wp2_with fail
  go_loopw [3, 4] (fun o i wr => ∃ k : Nat, k ≤ c.length ∧ i = .int .i64 k ∧ o = .int .i64 (clSize (c.take k) : Nat) ∧ Ext w wr) (fun _ i _ => c.length - (intOf i).toNat)
  case atStart => exact ⟨0, Nat.zero_le _, rfl, rfl, Below.refl _ _⟩
  case round =>
    obtain ⟨k, hkk, rfl, rfl, hext⟩ := hrel
    by_cases hlt : k < c.length
    · have hk1 : (k : Int) < c.length := by omega
      obtain ⟨b, o, la, lc, ra, rc, rfl, h1, h2, h3, h4, h5, hL, hRt⟩ := (hc.ext hext) k hlt
      have HC := Lib.hid (refLit_any c[k] (hcs _ (List.getElem_mem hlt)) wr la ra lc rc hL hRt)
      have HST := Lib.hid (clSize_take hlt)
      have hle := clSize_le (c := c.take (k + 1)) fun x hx => hcs x (List.mem_of_mem_take hx)
      rw [HST.out] at hle
      have hl2 : (c.take (k + 1)).length ≤ 1048576 := by rw [List.length_take]; omega
      have hb : clSize (c.take k) + c[k].size ≤ 4398046511104 := by omega
      clear hL hRt hle hl2
      generalize clSize (c.take k) = Z at *
      generalize c[k].size = y at *
      generalize c[k].neg = neg at *
      generalize c[k].l.f = lf at *
      generalize c[k].r.f = rf at *
      generalize c[k].l.ks.length = ll at *
      generalize c[k].r.ks.length = rl at *
      go_wp2_with (go_at_call 36; refine (HC.out).mono ?_; rintro e w1 ⟨rfl, hx1⟩)
      go_roundw
      case rel => exact ⟨k + 1, by omega, by go_num, by rw [HST.out]; go_num, hext.trans hx1⟩
      case measure => simp [intOf]; omega
    · have hk1 : ¬ (k : Int) < c.length := by omega
      have hke : c.take k = c := List.take_of_length_le (by omega)
      rw [hke]
      clear hke
      go_wp2_with fail
      go_ret
      exact ⟨rfl, by first | exact hext | exact hext.drewN _⟩
def clGreat (c : List Lt) : Bool := decide (40 < c.length) || decide (3000 < clSize c)
set_option maxHeartbeats 2000000 in
set_option maxRecDepth 100000 in
theorem great31_any (c : List Lt) (hcs : ∀ x ∈ c, x.sized) (hcl : c.length ≤ 1048576) (w : World) (ca : Option Addr) (cn : Nat) (hc : IsLits w ca c) :
    Calls Try.prog 4 #[.slice ca c.length cn] w fun e w' => e = .returned (.bool (clGreat c)) ∧ Ext w w' := by
  have H := Lib.hid (fun w' (h : Ext w w') => refClSize_any c hcs hcl w' ca cn (hc.ext h))
  unfold clGreat
  generalize clSize c = Z at *
  clear hc
  by_cases h : 40 < c.length
  · have h' : (40 : Int) < (c.length : Int) := by omega
    rw [decide_eq_true h]
    go_enter Try.func4, Try.ntmps4
    go_wp2_with fail
    go_ret
    exact ⟨rfl, by first | exact Below.refl _ _ | exact Ext.drewN (Below.refl _ _) _⟩
  · have h' : ¬ (40 : Int) < (c.length : Int) := by omega
    rw [decide_eq_false h]
    have He := Lib.hid (show decide ((3000 : Int) < (Z : Int)) = (false || decide (3000 < Z)) by
      by_cases h2 : 3000 < Z
      · rw [decide_eq_true h2]; exact decide_eq_true (by omega)
      · rw [decide_eq_false h2]; exact decide_eq_false (by omega))
    go_enter Try.func4, Try.ntmps4
    go_wp2_with (go_at_call 13; refine (H.out _ (by first | exact Below.refl _ _ | exact Ext.drewN (Below.refl _ _) _)).mono ?_; rintro e w1 ⟨rfl, hx1⟩)
    go_ret
    exact ⟨ret_bool He.out, by first | exact hx1 | exact Ext.trans (Ext.drewN (Below.refl _ _) _) hx1⟩
end Go.Proofs.Ytapoedcmhdlpfaa
namespace Go.Proofs.Ytapoedcmhdlpfaa
open Go.ChangeShapes Go.WideShapes Go.ChangeAt Go.RowKit
attribute [local go_sem] undef
/-- the wake-up answers true -/
def WakesOK : Prop := ∀ w : World, Calls Try.prog 6 #[] w fun e w' => e = .returned (.bool true) ∧ Ext w w'
set_option maxHeartbeats 8000000 in
set_option maxRecDepth 100000 in
theorem modelTells_any (HWK : WakesOK) (l : List Sy) (hl : l.length ≤ 1048576) (sz : Int) (tb : List (List Int)) (htl : tb.length ≤ 1048576) (hrl : ∀ r ∈ tb, r.length ≤ 1048576) (t : Tm) (hts : t.size ≤ 1048576) (vals : List Int) (hvl : vals.length ≤ 1048576) (c : List Lt) (hcs : ∀ x ∈ c, x.sized) (hcl : c.length ≤ 1048576)
    (w : World) (a : Option Addr) (n : Nat) (hln : l.length ≤ n) (hn63 : n ≤ 9223372036854775807) (hsy : IsSyms w a l) (ta : Option Addr) (tc : Nat) (hT : IsTabs w ta tb) (x y : Value) (ht : IsTm w x y t) (va : Option Addr) (vc : Nat) (hV : IsInts w va vals) (ca : Option Addr) (cn : Nat) (hc : IsLits w ca c) :
    Calls Try.prog 3 #[.agg #[.slice a l.length n], .agg #[.int .i64 sz, .slice ta tb.length tc], .agg #[x, y], .slice va vals.length vc, .slice ca c.length cn] w fun e w' => e = .returned (.bool true) ∧ Ext w w' := by
  have ht0 := ht
  obtain ⟨xa, xc, rfl, rfl, -, -, -, -⟩ := ht.form
  obtain ⟨W, hW⟩ : ∃ W, W = ((w.alloc (.cells #[.slice a l.length n] 24)).alloc (.cells #[.int .i64 sz, .slice ta tb.length tc] 27)).alloc (.cells #[.int .i64 t.f, .slice xa t.ks.length xc] 30) := ⟨_, rfl⟩
  have hx : Ext w W := by subst hW; go_grown
  have k0 : W.cell? ⟨w.heap.size, 0, none⟩ = some (.slice a l.length n) := by subst hW; go_simp
  have k1 : W.cell? ⟨w.heap.size + 1, 0, none⟩ = some (.int .i64 sz) := by subst hW; go_simp
  have k2 : W.cell? ⟨w.heap.size + 1, 1, none⟩ = some (.slice ta tb.length tc) := by subst hW; go_simp
  have k3 : W.cell? ⟨w.heap.size + 1 + 1, 0, none⟩ = some (.int .i64 t.f) := by subst hW; go_simp
  have k4 : W.cell? ⟨w.heap.size + 1 + 1, 1, none⟩ = some (.slice xa t.ks.length xc) := by subst hW; go_simp
  have hg := great31_any c hcs hcl W ca cn (hc.ext hx)
  have hs := fun w' (h : Ext W w') => refSize_any t w' _ _ (ht0.ext (hx.trans h)) (by omega)
  have h1 := fun w' (h : Ext W w') => mTerm_any l hl sz tb htl hrl t hts vals hvl w' a n hln hn63 (hsy.ext (hx.trans h)) ta tc (hT.ext (hx.trans h)) _ _ (ht0.ext (hx.trans h)) va vc (hV.ext (hx.trans h))
  have h2 := fun w' (h : Ext W w') => refTerm_any l hl sz tb htl hrl t hts vals hvl w' a n (hsy.ext (hx.trans h)) ta tc (hT.ext (hx.trans h)) _ _ (ht0.ext (hx.trans h)) va vc (hV.ext (hx.trans h))
  have h3 := fun w' (h : Ext W w') => mClause_any l hl sz tb htl hrl c hcs hcl w' a n hln hn63 (hsy.ext (hx.trans h)) ta tc (hT.ext (hx.trans h)) ca cn (hc.ext (hx.trans h))
  have h4 := fun w' (h : Ext W w') => refClause_any l hl sz tb htl hrl c hcs hcl w' a n (hsy.ext (hx.trans h)) ta tc (hT.ext (hx.trans h)) ca cn (hc.ext (hx.trans h))
  have h5 := fun w' (h : Ext W w') => modCheck_any l hl sz tb htl hrl w' a n hln hn63 (hsy.ext (hx.trans h)) ta tc (hT.ext (hx.trans h))
  have h6 := fun w' (h : Ext W w') => refModCheck_any l hl sz tb htl hrl w' a n (hsy.ext (hx.trans h)) ta tc (hT.ext (hx.trans h))
  generalize (termSays l sz tb t vals).1 = r1 at h1 h2
  generalize (termSays l sz tb t vals).2 = r2 at h1 h2
  generalize (clauseSays l sz tb c).1 = q1 at h3 h4
  generalize (clauseSays l sz tb c).2 = q2 at h3 h4
  generalize modCheck l sz tb = z at h5 h6
  generalize clGreat c = G at hg
  have HG := Lib.hid hg
  have HS := Lib.hid hs
  have H1 := Lib.hid h1
  have H2 := Lib.hid h2
  have H3 := Lib.hid h3
  have H4 := Lib.hid h4
  have H5 := Lib.hid h5
  have H6 := Lib.hid h6
  have HW := Lib.hid (show ∀ w : World, Calls Try.prog 6 #[] w fun e w' => e = .returned (.bool true) ∧ Ext w w' from HWK)
  clear hg hs h1 h2 h3 h4 h5 h6 HWK hsy hT ht ht0 hV hc
  cases G with
  | true =>
    go_enter Try.func3, Try.ntmps3
    go_wp2_with (first
      | (go_at_call 4; rw [← hW]; clear hW; refine (HG.out).mono ?_; rintro e w1 ⟨rfl, hx1⟩)
      | (go_at_call 6; refine (HW.out _).mono ?_; rintro e w2 ⟨rfl, hx2⟩))
    go_ret
    exact ⟨rfl, hx.trans (hx1.trans hx2)⟩
  | false =>
    by_cases hsz : 3000 < t.size
    · have hs1 : (3000 : Int) < (t.size : Int) := by omega
      have hs2 : decide ((3000 : Int) < (t.size : Int)) = true := decide_eq_true hs1
      go_enter Try.func3, Try.ntmps3
      go_wp2_with (first
        | (go_at_call 4; rw [← hW]; clear hW; refine (HG.out).mono ?_; rintro e w1 ⟨rfl, hx1⟩; replace k3 := hx1.cell k3; replace k4 := hx1.cell k4)
        | (go_at_call 5; refine (HS.out _ hx1).mono ?_; rintro e w2 ⟨rfl, hx2⟩)
        | (go_at_call 6; refine (HW.out _).mono ?_; rintro e w3 ⟨rfl, hx3⟩))
      go_ret
      exact ⟨rfl, hx.trans (hx1.trans (hx2.trans hx3))⟩
    · have hs1 : ¬ (3000 : Int) < (t.size : Int) := by omega
      have hs2 : decide ((3000 : Int) < (t.size : Int)) = false := decide_eq_false hs1
      go_enter Try.func3, Try.ntmps3
      go_wp2_with (first
        | (go_at_call 4; rw [← hW]; clear hW; refine (HG.out).mono ?_; rintro e w1 ⟨rfl, hx1⟩; replace k0 := hx1.cell k0; replace k1 := hx1.cell k1; replace k2 := hx1.cell k2; replace k3 := hx1.cell k3; replace k4 := hx1.cell k4)
        | (go_at_call 5; refine (HS.out _ hx1).mono ?_; rintro e w2 ⟨rfl, hx2⟩; have hE := hx1.trans hx2; replace k0 := hx2.cell k0; replace k1 := hx2.cell k1; replace k2 := hx2.cell k2; replace k3 := hx2.cell k3; replace k4 := hx2.cell k4)
        | (go_at_call 7; refine (H1.out _ hE).mono ?_; rintro e w3 ⟨rfl, hx3⟩; replace hE := hE.trans hx3; replace k0 := hx3.cell k0; replace k1 := hx3.cell k1; replace k2 := hx3.cell k2; replace k3 := hx3.cell k3; replace k4 := hx3.cell k4)
        | (go_at_call 8; refine (H2.out _ hE).mono ?_; rintro e w4 ⟨rfl, hx4⟩; replace hE := hE.trans hx4; replace k0 := hx4.cell k0; replace k1 := hx4.cell k1; replace k2 := hx4.cell k2; replace k3 := hx4.cell k3; replace k4 := hx4.cell k4)
        | (go_at_call 9; refine (H3.out _ hE).mono ?_; rintro e w5 ⟨rfl, hx5⟩; replace hE := hE.trans hx5; replace k0 := hx5.cell k0; replace k1 := hx5.cell k1; replace k2 := hx5.cell k2)
        | (go_at_call 10; refine (H4.out _ hE).mono ?_; rintro e w6 ⟨rfl, hx6⟩; replace hE := hE.trans hx6; replace k0 := hx6.cell k0; replace k1 := hx6.cell k1; replace k2 := hx6.cell k2))
      refine wp_region_noPanic ?_
      refine wp_region_X (by kernel_rfl) (by kernel_rfl) (fun _ _ _ _ _ h => h) (XW.out ?_)
      iterate 31 (first | (refine xw_skip (by rfl) ?_; simp only [Act.put, List.setIfInBounds_toArray, List.set_cons_zero, List.set_cons_succ]) | (apply xw_want; (focus rfl); (focus (intro v1 hv; have e0 := hv.cell k0; have e1 := hv.cell k1; have e2 := hv.cell k2; go_simp; first | done | rfl | exact ⟨rfl, Below.refl _ _⟩ | exact Below.refl _ _ | (with_reducible exact H5.out _ (hE.trans hv)) | (with_reducible exact H6.out _ (hE.trans hv)) | (with_reducible exact HW.out _))); simp only [Act.put, List.setIfInBounds_toArray, List.set_cons_zero, List.set_cons_succ]))
      refine xw_nil fun w9 hE9 => NoPanic.normal ?_
      go_wp2_with fail
      go_ret
      exact ⟨rfl, hx.trans (hE.trans hE9)⟩
end Go.Proofs.Ytapoedcmhdlpfaa
