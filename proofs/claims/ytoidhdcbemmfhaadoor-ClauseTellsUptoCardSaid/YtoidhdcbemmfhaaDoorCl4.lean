/- Plain: how literals and clauses are written. No condition. -/
import Derived.Test.YtoidhdcbemmfhaaDoorCl2
import Derived.Test.YtoidhdcbemmfhaaDoorRefText
import Derived.Test.YtoidhdcbemmfhaaDoorRow2
namespace Go.Proofs.YtoidhdcbemmfhaaDoor
open Go.ChangeShapes Go.WideShapes Go.ChangeAt Go.RowKit

def litText (l : List Sy) (x : Lt) : List UInt8 :=
  if x.r.isTrue = true then (if x.neg = true then [126, 32] ++ termText l x.l else termText l x.l)
  else if x.neg = true then termText l x.l ++ ([32, 33, 61, 32] ++ termText l x.r) else termText l x.l ++ ([32, 61, 32] ++ termText l x.r)
def clText (l : List Sy) (c : List Lt) : List UInt8 := Lib.join (c.map (litText l)) [32, 124, 32]
def clauseText (l : List Sy) (c : List Lt) : List UInt8 := if clauseCheck l c = 0 then (if c.length = 0 then [36, 102, 97, 108, 115, 101] else clText l c) else []

theorem termText_le {l : List Sy} (h : namesOk l) (t : Tm) : (termText l t).length ≤ 314574000 := by
  unfold termText
  split
  · rename_i hz
    obtain ⟨h1, h2, -⟩ := termCheck_zero hz
    have := text_le h t h2
    omega
  · simp
theorem litText_le {l : List Sy} (h : namesOk l) (x : Lt) : (litText l x).length ≤ 629148004 := by
  have h1 := termText_le h x.l
  have h2 := termText_le h x.r
  unfold litText
  split <;> split <;> simp <;> omega
theorem join_len_le {N : Nat} (xs : List (List UInt8)) (sep : List UInt8) (h : ∀ x ∈ xs, x.length ≤ N) : (Lib.join xs sep).length ≤ xs.length * (N + sep.length) := by
  cases xs with
  | nil => simp [Lib.join_nil]
  | cons x r =>
    rw [Lib.join_cons, List.length_append, Lib.joinTail_length]
    have h1 := h x (by simp)
    have h2 : ∀ r : List (List UInt8), (∀ y ∈ r, y.length ≤ N) → Lib.lens r ≤ r.length * N := by
      intro r
      induction r with
      | nil => intro _; simp [Lib.lens]
      | cons y r ih =>
        intro hr
        have a := hr y (by simp)
        have b := ih fun y hy => hr y (by simp [hy])
        simp only [Lib.lens, List.map_cons, List.sum_cons, List.length_cons] at b ⊢
        rw [Nat.add_mul]; omega
    have h3 := h2 r fun y hy => h y (by simp [hy])
    simp only [List.length_cons]
    rw [Nat.add_mul, Nat.mul_add, Nat.mul_comm sep.length]
    omega
theorem clText_le {l : List Sy} (h : namesOk l) (c : List Lt) (hc : c.length ≤ 16) : (clText l c).length ≤ 10066368112 := by
  have h1 := join_len_le (N := 629148004) (c.map (litText l)) [32, 124, 32] (fun x hx => by
    obtain ⟨y, -, rfl⟩ := List.mem_map.1 hx
    exact litText_le h y)
  unfold clText
  simp only [List.length_map, List.length_cons, List.length_nil] at h1
  have : c.length * (629148004 + (0 + 1 + 1 + 1)) ≤ 16 * (629148004 + (0 + 1 + 1 + 1)) := Nat.mul_le_mul_right _ hc
  omega
theorem clText_step {l : List Sy} {c : List Lt} {k : Nat} (h : k < c.length) : clText l (c.take (k + 1)) = if k = 0 then litText l c[k] else clText l (c.take k) ++ [32, 124, 32] ++ litText l c[k] := by
  cases c with
  | nil => simp at h
  | cons x r =>
    cases k with
    | zero => simp [clText, Lib.join_one]
    | succ k =>
      have hk : k < r.length := by simpa using h
      simp only [clText, List.take_succ_cons, List.map_cons, Lib.join_cons, List.getElem_cons_succ]
      rw [if_neg (by omega), List.map_take, List.map_take, Lib.joinTail_take_succ _ _ _ (litText l r[k]) (by rw [List.getElem?_map, List.getElem?_eq_getElem hk]; rfl)]
      simp

def str (a : List UInt8) : ByteArray := ⟨a.toArray⟩
theorem str_app (a b : List UInt8) : str a ++ str b = str (a ++ b) := app_arr a b
theorem cat1 (S : List UInt8) : (⟨#[126, 32]⟩ : ByteArray) ++ (⟨S.toArray⟩ : ByteArray) = str ([126, 32] ++ S) := app_arr [126, 32] S
theorem cat2 (S T : List UInt8) : (⟨S.toArray⟩ : ByteArray) ++ ((⟨#[32, 33, 61, 32]⟩ : ByteArray) ++ (⟨T.toArray⟩ : ByteArray)) = str (S ++ ([32, 33, 61, 32] ++ T)) := by
  rw [show (⟨#[32, 33, 61, 32]⟩ : ByteArray) = ⟨([32, 33, 61, 32] : List UInt8).toArray⟩ from rfl, app_arr, app_arr]; rfl
theorem cat3 (S T : List UInt8) : (⟨S.toArray⟩ : ByteArray) ++ ((⟨#[32, 61, 32]⟩ : ByteArray) ++ (⟨T.toArray⟩ : ByteArray)) = str (S ++ ([32, 61, 32] ++ T)) := by
  rw [show (⟨#[32, 61, 32]⟩ : ByteArray) = ⟨([32, 61, 32] : List UInt8).toArray⟩ from rfl, app_arr, app_arr]; rfl
def eltStr : Elt ByteArray where
  size := 1
  is _ _ cs n := cs = [.string n]
  len h := by rw [h]; rfl
  one h := by rw [h]; simp [Value.oneCell']
  keep _ _ h := h
theorem infoStr : (Tryd.prog.info? 9).map (fun i => (i.zero, i.size, i.bytes)) = some (some (.string ⟨#[]⟩), 1, 16) := by kernel_rfl
/-- the cells of a row of texts -/
theorem GRow.strs {e B : Nat} {w : World} {v : Value} {l : List ByteArray} (h : GRow eltStr e B w v l) (hl : 0 < l.length) : ∃ g cap, v = .slice (some ⟨g, 0, none⟩) l.length cap ∧ l.length ≤ cap ∧ g < w.heap.size ∧ ∀ (j : Nat) x, l[j]? = some x → w.cell? ⟨g, 0 + j, none⟩ = some (.string x) := by
  obtain ⟨g, cap, -, hv, -, hlt, hc, -⟩ := h.at hl
  refine ⟨g, cap, hv, hc, hlt, fun j x hx => ?_⟩
  obtain ⟨hj, rfl⟩ := List.getElem?_eq_some_iff.1 hx
  obtain ⟨g', cap', cs, hv', -, -, -, hcs, -, hcell⟩ := h.at hj
  rw [hv] at hv'
  injection hv' with e1
  injection e1 with e1
  injection e1 with e1
  subst e1
  have h0 := hcell 0 (.string l[j]) (by rw [hcs]; rfl)
  rw [show 0 + j = j * eltStr.size + 0 by show 0 + j = j * 1 + 0; omega]
  exact h0
end Go.Proofs.YtoidhdcbemmfhaaDoor
