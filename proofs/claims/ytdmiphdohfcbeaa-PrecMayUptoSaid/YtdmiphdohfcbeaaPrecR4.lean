/- Clauses in memory; what the reference's Counts returns. Conditions: at most 100 clauses; lengths and sizes fit. -/
import Derived.Test.YtdmiphdohfcbeaaPrecR3
import Derived.Test.YtdmiphdohfcbeaaCl1
import Derived.Laws.MakeOwn
namespace Go.Proofs.Ytdmiphdohfcbeaa
open Go.ChangeShapes Go.WideShapes Go.ChangeAt Go.RowKit

/-- from an address on stand clauses -/
def IsCls (w : World) (a : Option Addr) (cs : List (List Lt)) : Prop :=
  ∀ i (h : i < cs.length), ∃ b o ca cn, a = some ⟨b, o, none⟩ ∧ w.cell? ⟨b, o + i, none⟩ = some (.slice ca cs[i].length cn) ∧ cs[i].length ≤ cn ∧ IsLits w ca cs[i]
theorem IsCls.ext {w w' : World} {a : Option Addr} {cs : List (List Lt)} (h : IsCls w a cs) (hx : Ext w w') : IsCls w' a cs := fun i hi => by
  obtain ⟨b, o, ca, cn, h1, h2, h3, h4⟩ := h i hi
  exact ⟨b, o, ca, cn, h1, hx.cell h2, h3, h4.ext hx⟩
def sizedCls (cs : List (List Lt)) : Prop := ∀ i (h : i < cs.length), cs[i].length ≤ 1048576 ∧ ∀ k (hk : k < cs[i].length), (cs[i][k]).sized

def litOk (l : List Sy) (x : Lt) : Bool := decide (termCheck l x.l = 0 ∧ termCheck l x.r = 0)
def clsOk (l : List Sy) (cs : List (List Lt)) : Bool := cs.all fun c => c.all (litOk l)
def countsErr (l : List Sy) (cs : List (List Lt)) : Int := if sigCheck l = 0 ∧ clsOk l cs = true then 0 else 2
theorem tc_zero {l : List Sy} {t : Tm} (h : termCheck l t = 0) : sigCheck l = 0 ∧ t.size ≤ 300 ∧ t.low 48 = true ∧ t.over l true = true := by
  unfold termCheck at h
  split at h
  · rename_i h1
    obtain ⟨h0, h2, h3⟩ := h1
    unfold Tm.small at h2
    simp only [Bool.and_eq_true, decide_eq_true_eq] at h2
    exact ⟨h0, h2.1.1, h2.2, h3⟩
  · cases h
theorem tc_cases (l : List Sy) (t : Tm) : termCheck l t = 0 ∨ termCheck l t = 2 := by unfold termCheck; split <;> simp
theorem over_under (l : List Sy) (m : Int) (t : Tm) : ∀ top, t.low m = true → t.over l top = true → t.under l.length = true := by
  refine Tm.rec (motive_1 := fun t => ∀ top, t.low m = true → t.over l top = true → t.under l.length = true)
    (motive_2 := fun ks => Tm.lows m ks = true → Tm.overs l ks = true → Tm.unders l.length ks = true) ?_ ?_ ?_ t
  · intro f ks ih top hl ho
    simp only [Tm.over, Bool.and_eq_true, Bool.or_eq_true, decide_eq_true_eq] at ho
    simp only [Tm.under, Bool.and_eq_true, decide_eq_true_eq]
    simp only [Tm.low] at hl
    by_cases hf : f < 0
    · rw [if_pos hf, Bool.and_eq_true, decide_eq_true_eq, decide_eq_true_eq] at hl
      have : ks = [] := List.eq_nil_of_length_eq_zero hl.2
      subst this
      exact ⟨by omega, by simp [Tm.unders]⟩
    · rw [if_neg hf] at hl
      refine ⟨?_, ih hl (by rcases ho.2 with h | h; exact absurd h hf; exact h)⟩
      have h1 := ho.1
      unfold okAt at h1
      rw [if_neg (by simpa [Tm.f] using hf)] at h1
      simp only [Tm.f] at h1
      rcases Nat.lt_or_ge f.toNat l.length with h | h
      · omega
      · rw [List.getElem?_eq_none h] at h1; cases h1
  · intro _ _; simp [Tm.unders]
  · intro t ts ih1 ih2 hl ho
    simp only [Tm.lows, Bool.and_eq_true] at hl
    simp only [Tm.overs, Bool.and_eq_true] at ho
    simp only [Tm.unders, Bool.and_eq_true]
    exact ⟨ih1 false hl.1 ho.1, ih2 hl.2 ho.2⟩
theorem tc_under {l : List Sy} {t : Tm} (h : termCheck l t = 0) : t.under l.length = true := by
  obtain ⟨-, -, h1, h2⟩ := tc_zero h
  exact over_under l 48 t true h1 h2
theorem clsOk_false {l : List Sy} {cs : List (List Lt)} {i : Nat} (hi : i < cs.length) {k : Nat} (hk : k < cs[i].length) (h : litOk l cs[i][k] = false) : clsOk l cs = false := by
  cases hh : clsOk l cs with
  | false => rfl
  | true =>
    unfold clsOk at hh
    have h1 := List.all_eq_true.1 hh _ (List.getElem_mem hi)
    have h2 := List.all_eq_true.1 h1 _ (List.getElem_mem hk)
    rw [h] at h2; cases h2
theorem clsOk_true {l : List Sy} {cs : List (List Lt)} (h : ∀ i (hi : i < cs.length), ∀ k (hk : k < cs[i].length), litOk l cs[i][k] = true) : clsOk l cs = true := by
  unfold clsOk
  rw [List.all_eq_true]
  intro c hc
  obtain ⟨i, hi, rfl⟩ := List.getElem_of_mem hc
  rw [List.all_eq_true]
  intro x hx
  obtain ⟨k, hk, rfl⟩ := List.getElem_of_mem hx
  exact h i hi k hk
theorem clSyms_take {c : List Lt} {k : Nat} (h : k < c.length) : clSyms (c.take (k + 1)) = clSyms (c.take k) ++ c[k].syms := by
  unfold clSyms; rw [List.take_succ_eq_append_getElem h, List.flatMap_append]; simp
theorem allSyms_take {cs : List (List Lt)} {k : Nat} (h : k < cs.length) : allSyms (cs.take (k + 1)) = allSyms (cs.take k) ++ clSyms cs[k] := by
  unfold allSyms; rw [List.take_succ_eq_append_getElem h, List.flatMap_append]; simp
theorem ltSyms_length (x : Lt) (h : x.sized) : x.syms.length ≤ 4194304 := by
  obtain ⟨h1, h2⟩ := h
  have a1 := syms_length x.l
  have a2 := syms_length x.r
  unfold Lt.syms
  rw [List.length_append]
  split <;> simp <;> omega
theorem clSyms_length : ∀ (c : List Lt), (∀ k (h : k < c.length), c[k].sized) → (clSyms c).length ≤ c.length * 4194304
  | [], _ => by simp [clSyms]
  | x :: c, h => by
    have h1 := ltSyms_length x (h 0 (by simp))
    have h2 := clSyms_length c (fun k hk => h (k + 1) (by simpa using hk))
    unfold clSyms at h2 ⊢
    simp only [List.flatMap_cons, List.length_append, List.length_cons]
    omega
theorem allSyms_length : ∀ (cs : List (List Lt)), sizedCls cs → (allSyms cs).length ≤ cs.length * 4398046511104
  | [], _ => by simp [allSyms]
  | c :: cs, h => by
    obtain ⟨h0, h0'⟩ := h 0 (by simp)
    have h1 := clSyms_length c h0'
    simp only [List.getElem_cons_zero] at h0
    have h2 := allSyms_length cs (fun i hi => h (i + 1) (by simpa using hi))
    unfold allSyms at h2 ⊢
    simp only [List.flatMap_cons, List.length_append, List.length_cons]
    omega
theorem sizedCls.take {cs : List (List Lt)} (h : sizedCls cs) (k : Nat) : sizedCls (cs.take k) := fun i hi => by
  have hi' : i < cs.length := by simp at hi; omega
  rw [List.getElem_take]; exact h i hi'

theorem infoI : (Try.prog.info? 3).map (fun i => (i.zero, i.size, i.bytes)) = some (some (.int .i64 0), 1, 8) := by kernel_rfl
theorem mk_ints (n : Nat) (hn : n ≤ 2097152) (w : World) : (Instr.makeSlice 25 (.int .i64 (n : Int)) (.int .i64 (n : Int))).run Try.prog w = .ok (.slice (some ⟨w.heap.size, 0, none⟩) n n) (w.alloc (.cells (madeCells #[.int .i64 0] n) 3)) := by
  obtain ⟨i, hi, hz, hs, hb⟩ : ∃ i, Try.prog.info? 3 = some i ∧ i.zero = some (.int .i64 0) ∧ i.size = 1 ∧ i.bytes = 8 := by
    have h := infoI
    cases h2 : Try.prog.info? 3 with
    | none => rw [h2] at h; cases h
    | some i => rw [h2] at h; simp only [Option.map_some, Option.some.injEq, Prod.mk.injEq] at h; exact ⟨i, rfl, h⟩
  have hr := run_make (P := Try.prog) w 25 3 i _ Try.underlying25 hi hz .i64 .i64 n n (by omega) (by omega) (by rw [hb]; omega) (by omega)
  simp only [Int.toNat_natCast] at hr
  rw [hs, Nat.mul_one] at hr
  exact hr
theorem Nums.made (w : World) (n : Nat) : Nums (w.alloc (.cells (madeCells #[.int .i64 0] n) 3)) w.heap.size (List.replicate n 0) := by
  refine ⟨fun i hi => ?_⟩
  simp only [List.length_replicate] at hi
  have ho := heap_alloc_new w (.cells (madeCells #[.int .i64 0] n) 3)
  have hc := cell_of_row _ w.heap.size i _ _ _ ho
  rw [hc, List.getElem_replicate]
  refine ⟨?_, ?_⟩
  · unfold madeCells
    simp [hi, Nat.mod_one]
  · unfold World.frozen?; simp only [ho]; simp

theorem cells1 (w : World) (x : Value) (t : TypeId) : (w.alloc (.cells #[x] t)).cell? ⟨w.heap.size, 0, none⟩ = some x := by
  simp
/-- what Counts hands back -/
def CountsGiven (B : Nat) (w : World) (v : Value) (l : List Sy) (cs : List (List Lt)) : Prop :=
  (countsErr l cs = 2 ∧ v = .tuple #[.slice none 0 0, .int .i64 2]) ∨
  (countsErr l cs = 0 ∧ ∃ nb, B ≤ nb ∧ nb < w.heap.size ∧ v = .tuple #[.slice (some ⟨nb, 0, none⟩) l.length l.length, .int .i64 0] ∧ Nums w nb (counts l.length (allSyms cs)))
end Go.Proofs.Ytdmiphdohfcbeaa
