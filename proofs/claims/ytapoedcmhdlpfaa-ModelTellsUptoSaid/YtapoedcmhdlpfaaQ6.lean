/- What term.Copy and term.At return: the same term in new memory.
What term.At returns.
Plain: what becomes of a term when something is put at a place; all places of a term in order; going over a row till told to stop. No condition. -/
import Derived.Test.YtapoedcmhdlpfaaQ0
import Derived.Laws.MakeOwn
import Derived.Deep.RegionHeld3
import Derived.StillTailTactics
import Derived.Laws.ResultCell
namespace Go.Proofs.Ytapoedcmhdlpfaa
open Go.ChangeShapes Go.WideShapes Go.ChangeAt Go.RowKit
mutual
/-- two cells read as a term all of whose arguments lie in blocks from B on, what belongs to a row's terms behind the row -/
def NewTm (B : Nat) (w : World) (x s : Value) : Tm → Prop
  | .mk n ks => x = .int .i64 n ∧ -9223372036854775808 ≤ n ∧ n ≤ 9223372036854775807 ∧ ∃ a, s = .slice a ks.length ks.length ∧ (ks = [] → a = none) ∧ NewTms B w a ks
def NewTms (B : Nat) (w : World) (a : Option Addr) : List Tm → Prop
  | [] => True
  | t :: ts => ∃ b o x s, a = some ⟨b, o, none⟩ ∧ B ≤ b ∧ w.cell? ⟨b, o, none⟩ = some x ∧ w.cell? ⟨b, o + 1, none⟩ = some s ∧ NewTm (b + 1) w x s t ∧ NewTms B w (some ⟨b, o + 2, none⟩) ts
end
section
variable {w w' : World}
mutual
theorem NewTm.of_cells : ∀ {t : Tm} {x s : Value} {B C : Nat}, C ≤ B → (∀ p v, B ≤ p.block → w.cell? p = some v → w'.cell? p = some v) → NewTm B w x s t → NewTm C w' x s t
  | .mk n ks, x, s, B, C, hB, h, ht => by
    simp only [NewTm] at ht ⊢
    obtain ⟨h1, h2, h3, a, h4, h6, h5⟩ := ht
    exact ⟨h1, h2, h3, a, h4, h6, NewTms.of_cells hB h h5⟩
theorem NewTms.of_cells : ∀ {ts : List Tm} {a : Option Addr} {B C : Nat}, C ≤ B → (∀ p v, B ≤ p.block → w.cell? p = some v → w'.cell? p = some v) → NewTms B w a ts → NewTms C w' a ts
  | [], a, B, C, hB, h, _ => trivial
  | t :: ts, a, B, C, hB, h, ht => by
    simp only [NewTms] at ht ⊢
    obtain ⟨b, o, x, s, h1, h0, h2, h3, h4, h5⟩ := ht
    exact ⟨b, o, x, s, h1, Nat.le_trans hB h0, h _ _ h0 h2, h _ _ h0 h3, NewTm.of_cells (Nat.le_refl _) (fun p v hp => h p v (by omega)) h4, NewTms.of_cells hB h h5⟩
end
end
theorem NewTm.ext {B : Nat} {w w' : World} {t : Tm} {x s : Value} (h : NewTm B w x s t) (hx : Ext w w') : NewTm B w' x s t := h.of_cells (Nat.le_refl _) fun _ _ _ hp => hx.cell hp
/-- a term that lies from B on stays when what changes lies ahead -/
theorem NewTm.chg {S : List Nat} {B : Nat} {w w' : World} {t : Tm} {x s : Value} (h : NewTm B w x s t) (hx : Chg S w w') (hS : ∀ i ∈ S, i < B) : NewTm B w' x s t :=
  h.of_cells (Nat.le_refl _) fun p _ hB hp => hx.cell hp (fun hm => by have := hS _ hm; omega)
theorem NewTm.form {B : Nat} {w : World} {x s : Value} : ∀ {t : Tm}, NewTm B w x s t → ∃ a, x = .int .i64 t.f ∧ s = .slice a t.ks.length t.ks.length
  | .mk f ks, h => by
    simp only [NewTm] at h
    obtain ⟨h1, -, -, a, h4, -, -⟩ := h
    exact ⟨a, h1, h4⟩
/-- rows of new terms, from the parts -/
theorem NewTms.of_at {B b : Nat} {w : World} : ∀ {ts : List Tm} {o : Nat}, B ≤ b → (∀ i (h : i < ts.length), ∃ x s, w.cell? ⟨b, o + i * 2, none⟩ = some x ∧ w.cell? ⟨b, o + i * 2 + 1, none⟩ = some s ∧ NewTm (b + 1) w x s ts[i]) → NewTms B w (some ⟨b, o, none⟩) ts
  | [], _, _, _ => trivial
  | t :: ts, o, hB, h => by
    simp only [NewTms]
    obtain ⟨x, s, h1, h2, h3⟩ := h 0 (by simp)
    refine ⟨b, o, x, s, rfl, hB, by simpa using h1, by simpa using h2, h3, NewTms.of_at hB fun i hi => ?_⟩
    obtain ⟨x, s, g1, g2, g3⟩ := h (i + 1) (by simpa using hi)
    exact ⟨x, s, by rw [show o + 2 + i * 2 = o + (i + 1) * 2 by omega]; exact g1, by rw [show o + 2 + i * 2 + 1 = o + (i + 1) * 2 + 1 by omega]; exact g2, by simpa using g3⟩

/-- block B has room for n terms; the first k of ks stand in it -/
def Row (B n k : Nat) (ks : List Tm) (w : World) : Prop :=
  (∀ j, j < n * 2 → (∃ v, w.cell? ⟨B, j, none⟩ = some v) ∧ w.frozen? ⟨B, j, none⟩ = false) ∧
  ∀ j (h : j < ks.length), j < k → ∃ a, w.cell? ⟨B, j * 2, none⟩ = some (.int .i64 ks[j].f) ∧ w.cell? ⟨B, j * 2 + 1, none⟩ = some (.slice a ks[j].ks.length ks[j].ks.length) ∧ NewTm (B + 1) w (.int .i64 ks[j].f) (.slice a ks[j].ks.length ks[j].ks.length) ks[j]
theorem Row.ext {B n k : Nat} {ks : List Tm} {w w' : World} (h : Row B n k ks w) (hx : Ext w w') : Row B n k ks w' := by
  refine ⟨fun j hj => ?_, fun j hl hj => ?_⟩
  · obtain ⟨⟨v, h1⟩, h2⟩ := h.1 j hj
    exact ⟨⟨v, hx.cell h1⟩, hx.frozen h1 h2⟩
  · obtain ⟨a, h1, h2, h3⟩ := h.2 j hl hj
    exact ⟨a, hx.cell h1, hx.cell h2, h3.ext hx⟩
theorem Row.step {B n k : Nat} {ks : List Tm} {w : World} (h : Row B n k ks w) (hkn : k < n) (hk : k < ks.length) {a : Option Addr} (hn : NewTm (B + 1) w (.int .i64 ks[k].f) (.slice a ks[k].ks.length ks[k].ks.length) ks[k]) :
    Row B n (k + 1) ks ((w.setCell ⟨B, k * 2, none⟩ (.int .i64 ks[k].f)).setCell ⟨B, k * 2 + 1, none⟩ (.slice a ks[k].ks.length ks[k].ks.length)) := by
  have hc : Chg [B] w ((w.setCell ⟨B, k * 2, none⟩ (.int .i64 ks[k].f)).setCell ⟨B, k * 2 + 1, none⟩ (.slice a ks[k].ks.length ks[k].ks.length)) :=
    ((Chg.refl [B] w).setCell _ (.inl (by simp))).setCell _ (.inl (by simp))
  obtain ⟨⟨v1, e1⟩, -⟩ := h.1 (k * 2) (by omega)
  obtain ⟨⟨v2, e2⟩, -⟩ := h.1 (k * 2 + 1) (by omega)
  have oth : ∀ j, j ≠ k * 2 → j ≠ k * 2 + 1 → ((w.setCell ⟨B, k * 2, none⟩ (.int .i64 ks[k].f)).setCell ⟨B, k * 2 + 1, none⟩ (.slice a ks[k].ks.length ks[k].ks.length)).cell? ⟨B, j, none⟩ = w.cell? ⟨B, j, none⟩ := by
    intro j h1 h2
    rw [World.cell?_setCell_other _ _ _ _ (by intro e; injection e with _ e2; omega), World.cell?_setCell_other _ _ _ _ (by intro e; injection e with _ e2; omega)]
  have c1 : ((w.setCell ⟨B, k * 2, none⟩ (.int .i64 ks[k].f)).setCell ⟨B, k * 2 + 1, none⟩ (.slice a ks[k].ks.length ks[k].ks.length)).cell? ⟨B, k * 2, none⟩ = some (.int .i64 ks[k].f) := by
    rw [World.cell?_setCell_other _ _ _ _ (by intro e; injection e with _ e2; omega)]
    exact World.cell?_setCell_same _ _ _ e1
  have c2 : ((w.setCell ⟨B, k * 2, none⟩ (.int .i64 ks[k].f)).setCell ⟨B, k * 2 + 1, none⟩ (.slice a ks[k].ks.length ks[k].ks.length)).cell? ⟨B, k * 2 + 1, none⟩ = some (.slice a ks[k].ks.length ks[k].ks.length) := by
    apply World.cell?_setCell_same (u := v2)
    rw [World.cell?_setCell_other _ _ _ _ (by intro e; injection e with _ e2; omega)]; exact e2
  refine ⟨fun j hj => ?_, fun j hl hj => ?_⟩
  · obtain ⟨⟨v, h1⟩, h2⟩ := h.1 j hj
    refine ⟨?_, by rw [World.frozen?_setCell, World.frozen?_setCell]; exact h2⟩
    by_cases j1 : j = k * 2
    · subst j1; exact ⟨_, c1⟩
    · by_cases j2 : j = k * 2 + 1
      · subst j2; exact ⟨_, c2⟩
      · exact ⟨v, by rw [oth j j1 j2]; exact h1⟩
  · by_cases hjk : j = k
    · subst hjk
      exact ⟨a, c1, c2, hn.chg hc (by simp)⟩
    · obtain ⟨a', h1, h2, h3⟩ := h.2 j hl (by omega)
      exact ⟨a', by rw [oth _ (by omega) (by omega)]; exact h1, by rw [oth _ (by omega) (by omega)]; exact h2, h3.chg hc (by simp)⟩
theorem Row.done {B n : Nat} {ks : List Tm} {w : World} (h : Row B n ks.length ks w) : NewTms B w (some ⟨B, 0, none⟩) ks :=
  NewTms.of_at (Nat.le_refl _) fun i hi => by
    obtain ⟨a, h1, h2, h3⟩ := h.2 i hi hi
    exact ⟨_, _, by rw [Nat.zero_add]; exact h1, by rw [Nat.zero_add]; exact h2, h3⟩
end Go.Proofs.Ytapoedcmhdlpfaa
namespace Go.Proofs.Ytapoedcmhdlpfaa
open Go.ChangeShapes Go.WideShapes Go.ChangeAt Go.RowKit
/-- from an address on stand numbers -/
def IsInts (w : World) (a : Option Addr) (l : List Int) : Prop :=
  ∀ i (h : i < l.length), -9223372036854775808 ≤ l[i] ∧ l[i] ≤ 9223372036854775807 ∧ ∃ b o, a = some ⟨b, o, none⟩ ∧ w.cell? ⟨b, o + i, none⟩ = some (.int .i64 l[i])
theorem IsInts.ext {w w' : World} {a : Option Addr} {l : List Int} (h : IsInts w a l) (hx : Ext w w') : IsInts w' a l := fun i hi => by
  obtain ⟨h1, h2, b, o, h3, h4⟩ := h i hi
  exact ⟨h1, h2, b, o, h3, hx.cell h4⟩

def Tm.kid (t : Tm) (k : Int) : Option Tm := if 0 ≤ k then t.ks[k.toNat]? else none
def Tm.at : Tm → List Int → Option Tm
  | t, [] => some t
  | t, k :: p => match t.kid k with
    | none => none
    | some u => u.at p
end Go.Proofs.Ytapoedcmhdlpfaa
namespace Go.Proofs.Ytapoedcmhdlpfaa
def Tm.put : Tm → List Int → Tm → Option Tm
  | _, [], s => some s
  | t, k :: p, s => match t.kid k with
    | none => none
    | some u => match u.put p s with
      | none => none
      | some x => some (.mk t.f (t.ks.set k.toNat x))

section
variable {σ α : Type} (st : σ → α → Bool × σ)
end
end Go.Proofs.Ytapoedcmhdlpfaa
