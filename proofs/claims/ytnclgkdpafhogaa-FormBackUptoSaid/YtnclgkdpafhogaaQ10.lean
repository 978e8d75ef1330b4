/- The reference's May, Check. Condition: at most 4194304 parts.
Plain: tokens of a formula that may be are read as this formula. No condition.
The reference's SameExpr. Condition: at most 4194304 parts.
The reference's Same. Condition: at most 4194304 parts.
The program's Same: slices.EqualFunc on terms and on formulas, sameExpr, Same. Condition: at most 4194304 parts. -/
import Derived.Test.YtnclgkdpafhogaaQ9
import Derived.Test.YtnclgkdpafhogaaQ3
import Derived.StillTailTactics
import Derived.Test.YtnclgkdpafhogaaQ6
namespace Go.Proofs.Ytnclgkdpafhogaa
open Go.ChangeShapes Go.WideShapes Go.ChangeAt Go.RowKit
theorem shape_bounds {op a b c : Int} (h : shapeOf op = some (a, b, c)) : (-1000 ≤ a ∧ a ≤ 1000) ∧ (-1000 ≤ b ∧ b ≤ 1000) ∧ (-1000 ≤ c ∧ c ≤ 1000) := by
  unfold shapeOf at h
  repeat' split at h
  all_goals first
    | (cases h; done)
    | (simp only [Option.some.injEq, Prod.mk.injEq] at h; omega)
/-- may a term stand in a formula of an op? -/
def termOk (op : Int) (x : Ex) : Bool := x.may && !(decide (op = 3) && x.var)
theorem topMay_some {op a b c : Int} {v : List ByteArray} {t : List Ex} {n : Nat} (h : shapeOf op = some (a, b, c)) : topMay op v t n = (counted v.length a && counted t.length b && counted n c && varsMay v && t.all (termOk op)) := by
  unfold topMay; rw [h]; rfl
theorem topMay_none {op : Int} {v : List ByteArray} {t : List Ex} {n : Nat} (h : shapeOf op = none) : topMay op v t n = false := by
  unfold topMay; rw [h]
theorem terms_step {op : Int} {t : List Ex} {k : Nat} (h : k < t.length) : (t.take (k + 1)).all (termOk op) = ((t.take k).all (termOk op) && termOk op t[k]) := by
  rw [List.take_succ_eq_append_getElem h, List.all_append]; simp
theorem terms_bad {op : Int} {t : List Ex} {k : Nat} (h : k < t.length) (hb : termOk op t[k] = false) : t.all (termOk op) = false := by
  cases h2 : t.all (termOk op) with
  | false => rfl
  | true => have := List.all_eq_true.1 h2 t[k] (List.getElem_mem h); rw [hb] at this; cases this
end Go.Proofs.Ytnclgkdpafhogaa
namespace Go.Proofs.Ytnclgkdpafhogaa
theorem bytes_of_list {a b : ByteArray} (h : a.data.toList = b.data.toList) : a = b := by apply ByteArray.ext; exact Array.toList_inj.1 h
theorem kt_cons {ks : List Tok} {x : Int × List UInt8} {ts : List (Int × List UInt8)} (h : ks.map Tok.kt = x :: ts) : ∃ t r, ks = t :: r ∧ t.kt = x ∧ r.map Tok.kt = ts := by
  cases ks with
  | nil => cases h
  | cons t r => rw [List.map_cons] at h; injection h with h1 h2; exact ⟨t, r, rfl, h1, h2⟩
theorem sign_kt {t : Tok} {s : ByteArray} : t.sign s = true ↔ t.kt = sg s.data.toList := by
  unfold Tok.sign Tok.kt sg
  rw [Bool.and_eq_true, decide_eq_true_iff, decide_eq_true_iff]
  constructor
  · rintro ⟨h1, h2⟩; rw [h1, h2]
  · intro h; injection h with h1 h2; exact ⟨h1, bytes_of_list h2⟩
theorem take_kt {s : ByteArray} {ks : List Tok} {ts : List (Int × List UInt8)} (h : ks.map Tok.kt = sg s.data.toList :: ts) : ∃ r, takeS s ks = some r ∧ r.map Tok.kt = ts := by
  obtain ⟨t, r, rfl, h1, h2⟩ := kt_cons h
  exact ⟨r, by rw [takeS_cons, if_pos (sign_kt.2 h1)], h2⟩
theorem take_kt_no {s : ByteArray} {ks : List Tok} {ts : List (Int × List UInt8)} (h : ks.map Tok.kt = ts) (hn : ts.head? ≠ some (sg s.data.toList)) : takeS s ks = none := by
  cases ks with
  | nil => rfl
  | cons t r =>
    rw [takeS_cons, if_neg]
    intro hs
    rw [List.map_cons] at h
    subst h
    exact hn (by rw [List.head?_cons, sign_kt.1 hs])
theorem must_kt {s : ByteArray} {ks : List Tok} {ts : List (Int × List UInt8)} (h : ks.map Tok.kt = sg s.data.toList :: ts) : ∃ r, mustS s ks = .ok () r ∧ r.map Tok.kt = ts := by
  obtain ⟨r, h1, h2⟩ := take_kt h
  exact ⟨r, by unfold mustS; rw [h1], h2⟩
theorem head_app {α : Type} {a b : List α} {x : α} (ha : a.head? = some x) : (a ++ b).head? = some x := by
  cases a with
  | nil => cases ha
  | cons y a => exact ha
/-- what a reading of these tokens gives -/
def Gives {α : Type} (rd : Rd α) (x : α) (ts : List (Int × List UInt8)) : Prop := ∃ r, rd = .ok x r ∧ r.map Tok.kt = ts
theorem nameKT_kind (v : Bool) (n : ByteArray) : (nameKT v n).1 ≠ 6 ∧ (nameKT v n).1 ≠ 3 ∧ ((nameKT v n).1 = 2 ↔ v = true) ∧ (nameKT v n).2 = n.data.toList := by
  unfold nameKT
  cases v with
  | true => simp
  | false => simp only [Bool.false_eq_true, if_false]; split <;> simp
theorem toks_head (x : Ex) : x.toks.head? = some (nameKT x.var x.name) := by cases x; rfl
def ExGives (x : Ex) : Prop := ∀ (ks : List Tok) (ts : List (Int × List UInt8)), ks.map Tok.kt = x.toks ++ ts → ts.head? ≠ some (sg [40]) → Gives (rTerm ks) x ts
theorem more_ex : ∀ (l : List Ex), (∀ e ∈ l, ExGives e) → ∀ (ks : List Tok) (ts : List (Int × List UInt8)), ks.map Tok.kt = Ex.toksA 44 l ++ ts → ts.head? ≠ some (sg [40]) → ts.head? ≠ some (sg [44]) → Gives (more rTerm sComma ks) l ts
  | [], _, ks, ts, h, _, h44 => by
    refine ⟨ks, ?_, by simpa [Ex.toksA] using h⟩
    rw [more_eq (rTerm_shrinks _), take_kt_no (s := sComma) (by simpa [Ex.toksA] using h) h44]
  | e :: l, he, ks, ts, h, h40, h44 => by
    simp only [Ex.toksA, List.cons_append, List.append_assoc] at h
    obtain ⟨r1, h1, h2⟩ := take_kt (s := sComma) h
    obtain ⟨r2, h3, h4⟩ := he e (by simp) r1 _ h2 (by cases l with
      | nil => simpa [Ex.toksA] using h40
      | cons e2 l => simp [Ex.toksA, sg])
    obtain ⟨r3, h5, h6⟩ := more_ex l (fun x hx => he x (by simp [hx])) r2 ts h4 h40 h44
    exact ⟨r3, by rw [more_eq (rTerm_shrinks _), h1]; simp only; rw [h3]; simp only [Rd.bind_ok]; rw [h5]; rfl, h6⟩
theorem rd_ex (x : Ex) : x.may = true → ExGives x := by
  induction x using Ex.ind with
  | h v n l ih =>
    intro hm ks ts h h40
    simp only [Ex.toks, List.cons_append, List.append_assoc] at h
    obtain ⟨t, r, rfl, h1, h2⟩ := kt_cons h
    obtain ⟨k6, k3, k2, kt⟩ := nameKT_kind v n
    have hkd : t.kind = (nameKT v n).1 := by rw [← h1]; rfl
    have htx : t.text = n := bytes_of_list (by rw [← kt, ← h1]; rfl)
    rw [← hkd] at k6 k3 k2
    cases v with
    | true =>
      simp only [Ex.may, if_true, Bool.and_eq_true, decide_eq_true_eq] at hm
      have hl := List.eq_nil_of_length_eq_zero hm.1
      subst hl
      exact ⟨r, by rw [rTerm_eq, termStep_cons, if_pos (k2.2 rfl), htx], by simpa [Ex.toksA] using h2⟩
    | false =>
      simp only [Ex.may, Bool.false_eq_true, if_false, Bool.and_eq_true] at hm
      have h2' : t.kind ≠ 2 := fun h => by have := k2.1 h; cases this
      have hnm : t.named = true := by
        unfold Tok.named
        rw [htx, hm.1, Bool.and_true, hkd]
        unfold nameKT
        simp only [Bool.false_eq_true, if_false]
        split <;> rfl
      have ih' : ∀ e ∈ l, ExGives e := fun e he => ih e he (by have := hm.2; rw [Ex.mays_all, List.all_eq_true] at this; exact this e he)
      have hstep : rTerm (t :: r) = match takeS sLpar r with
        | none => .ok (.mk false t.text []) r
        | some r => (rowR rTerm sComma r).bind fun l r' => (mustS sRpar r').map fun _ => .mk false t.text l := by rw [rTerm_eq, termStep_cons, if_neg h2', if_pos hnm]; rfl
      cases l with
      | nil =>
        simp only [Ex.toksA, List.length_nil, Nat.lt_irrefl, if_false, List.nil_append] at h2
        exact ⟨r, by rw [hstep, take_kt_no (s := sLpar) h2 h40, htx], h2⟩
      | cons e l =>
        simp only [Ex.toksA, List.length_cons, Nat.zero_lt_succ, if_true, List.cons_append, List.append_assoc, List.nil_append] at h2
        obtain ⟨r1, g1, g2⟩ := take_kt (s := sLpar) h2
        obtain ⟨r2, g3, g4⟩ := ih' e (by simp) r1 _ g2 (by cases l with
          | nil => simp [Ex.toksA, sg]
          | cons e2 l => simp [Ex.toksA, sg])
        obtain ⟨r3, g5, g6⟩ := more_ex l (fun x hx => ih' x (by simp [hx])) r2 (sg [41] :: ts) g4 (by simp [sg]) (by simp [sg])
        obtain ⟨r4, g7, g8⟩ := must_kt (s := sRpar) g6
        refine ⟨r4, ?_, g8⟩
        rw [hstep, g1]
        simp only
        unfold rowR
        rw [g3, Rd.bind_ok, g5, Rd.map_ok, Rd.bind_ok, g7, htx]
        rfl

/-! ### formulas -/
/-- behind a unit -/
def stopU (ts : List (Int × List UInt8)) : Prop := ts.head? ≠ some (sg [40]) ∧ ts.head? ≠ some (sg [61]) ∧ ts.head? ≠ some (sg [33, 61])
/-- behind a formula -/
def stopF (ts : List (Int × List UInt8)) : Prop := stopU ts ∧ ∀ w, ts.head? = some (sg w) → w ∉ [[38], [124], [61, 62], [60, 61], [60, 61, 62], [60, 126, 62], [126, 124], [126, 38]]
def UGives (f : Fm) : Prop := ∀ (ks : List Tok) (ts : List (Int × List UInt8)), ks.map Tok.kt = unitKT f.op f.toks ++ ts → stopU ts → Gives (rUnit ks) f ts
def FGives (f : Fm) : Prop := ∀ (ks : List Tok) (ts : List (Int × List UInt8)), ks.map Tok.kt = f.toks ++ ts → stopF ts → Gives (rForm ks) f ts
theorem form_of_unit {f : Fm} {ks : List Tok} {ts : List (Int × List UInt8)} (h : Gives (rUnit ks) f ts) (hs : stopF ts) : Gives (rForm ks) f ts := by
  obtain ⟨r, h1, h2⟩ := h
  refine ⟨r, ?_, h2⟩
  unfold rForm formStep
  rw [h1, Rd.bind_ok]
  cases r with
  | nil => rfl
  | cons t r =>
    rw [behindStep_cons]
    by_cases h6 : t.kind = 6
    · have hk : t.kt = sg t.text.data.toList := by unfold Tok.kt sg; rw [h6]
      have hw := hs.2 t.text.data.toList (by rw [← h2, List.map_cons, List.head?_cons, hk])
      have hne : ∀ s : ByteArray, s.data.toList ∈ [[38], [124], [61, 62], [60, 61], [60, 61, 62], [60, 126, 62], [126, 124], [126, 38]] → t.text ≠ s := fun s hm he => hw (he ▸ hm)
      rw [if_neg (fun h => h h6), if_neg (hne sAnd (by decide)), if_neg (hne sOr (by decide))]
      have hb : binary t.text = none := by
        unfold binary
        rw [if_neg (hne sImp (by decide)), if_neg (hne sRev (by decide)), if_neg (hne sIff (by decide)), if_neg (hne sXor (by decide)), if_neg (hne sNor (by decide)), if_neg (hne sNand (by decide))]
      rw [hb]
    · rw [if_pos h6]
theorem more_units {sep : ByteArray} : ∀ (l : List Fm), (∀ e ∈ l, UGives e) → ∀ (ks : List Tok) (ts : List (Int × List UInt8)), ks.map Tok.kt = Fm.unitsKT false [sg sep.data.toList] l ++ ts → stopU ts → ts.head? ≠ some (sg sep.data.toList) → stopU [sg sep.data.toList] → Gives (more rUnit sep ks) l ts
  | [], _, ks, ts, h, _, hn, _ => by
    refine ⟨ks, ?_, by simpa [Fm.unitsKT] using h⟩
    rw [more_eq (rUnit_shrinks _), take_kt_no (s := sep) (by simpa [Fm.unitsKT] using h) hn]
  | e :: l, he, ks, ts, h, hs, hn, hsep => by
    simp only [Fm.unitsKT, Bool.false_eq_true, if_false, List.cons_append, List.append_assoc, List.nil_append] at h
    obtain ⟨r1, h1, h2⟩ := take_kt (s := sep) h
    obtain ⟨r2, h3, h4⟩ := he e (by simp) r1 _ h2 (by cases l with
      | nil => simpa [Fm.unitsKT] using hs
      | cons e2 l => simp only [Fm.unitsKT, Bool.false_eq_true, if_false, List.cons_append, List.nil_append]; exact hsep)
    obtain ⟨r3, h5, h6⟩ := more_units l (fun x hx => he x (by simp [hx])) r2 ts h4 hs hn hsep
    exact ⟨r3, by rw [more_eq (rUnit_shrinks _), h1]; simp only; rw [h3]; simp only [Rd.bind_ok]; rw [h5]; rfl, h6⟩
/-- a unit that begins with no sign of a unit -/
theorem bkUnit_atom {ks : List Tok} {ts : List (Int × List UInt8)} (h : ks.map Tok.kt = ts) (h6 : ∀ w, ts.head? ≠ some (sg w)) : rUnit ks = rAtomic ks := by
  rw [rUnit_eq]
  unfold unitStep
  rw [take_kt_no h (h6 _), take_kt_no h (h6 _), take_kt_no h (h6 _), take_kt_no h (h6 _)]
theorem atomic_term {ks : List Tok} {ts : List (Int × List UInt8)} (h : ks.map Tok.kt = ts) {k : Int × List UInt8} (hk : ts.head? = some k) (h3 : k.1 ≠ 3) : rAtomic ks = (rTerm ks).bind fun x r => match takeS sEq r with
    | some r' => (rTerm r').map fun y => fEq x y
    | none => match takeS sNe r with
      | some r' => (rTerm r').map fun y => fNot (fEq x y)
      | none => if x.var then .bad r else .ok (fAtom x) r := by
  subst h
  unfold rAtomic
  cases ks with
  | nil => rfl
  | cons t r =>
    rw [List.map_cons, List.head?_cons, Option.some.injEq] at hk
    have : t.kind ≠ 3 := by rw [← hk] at h3; exact h3
    rw [if_neg (by simp [this]), if_neg (by simp [this])]
    rfl
theorem name_head {x : Ex} {ts : List (Int × List UInt8)} : (∀ w, (x.toks ++ ts).head? ≠ some (sg w)) ∧ ∃ k, (x.toks ++ ts).head? = some k ∧ k.1 ≠ 3 := by
  have h := head_app (b := ts) (toks_head x)
  obtain ⟨k6, k3, -⟩ := nameKT_kind x.var x.name
  exact ⟨fun w hw => by rw [h] at hw; injection hw with hw; rw [hw] at k6; exact k6 rfl, _, h, k3⟩
theorem gives_vars : ∀ (l : List ByteArray) (ks : List Tok) (ts : List (Int × List UInt8)), ks.map Tok.kt = varsKT false l ++ ts → ts.head? ≠ some (sg [44]) → Gives (more (kindK 2) sComma ks) l ts
  | [], ks, ts, h, hn => by
    refine ⟨ks, ?_, by simpa [varsKT] using h⟩
    rw [more_eq (kindK_shrinks 2 _), take_kt_no (s := sComma) (by simpa [varsKT] using h) hn]
  | v :: l, ks, ts, h, hn => by
    simp only [varsKT, Bool.false_eq_true, if_false, List.cons_append, List.append_assoc, List.nil_append] at h
    obtain ⟨r1, h1, h2⟩ := take_kt (s := sComma) h
    obtain ⟨t, r2, rfl, h3, h4⟩ := kt_cons h2
    obtain ⟨r3, h5, h6⟩ := gives_vars l r2 ts h4 hn
    have hk : t.kind = 2 := congrArg Prod.fst h3
    have ht : t.text = v := bytes_of_list (congrArg Prod.snd h3)
    refine ⟨r3, ?_, h6⟩
    rw [more_eq (kindK_shrinks 2 _), h1]
    simp only
    rw [kindK_cons, if_pos hk, Rd.bind_ok, h5, Rd.map_ok, ht]
theorem gives_bound {v : List ByteArray} {g : Fm} (hg : UGives g) (hv : 1 ≤ v.length) {op : Int} {ks : List Tok} {ts : List (Int × List UInt8)} (h : ks.map Tok.kt = sg [91] :: (varsKT true v ++ (sg [93] :: sg [58] :: (unitKT g.op g.toks ++ ts)))) (hs : stopU ts) :
    Gives (boundStep rUnit op ks) (.mk op v [] [g]) ts := by
  obtain ⟨r1, h1, h2⟩ := must_kt (s := sLbra) h
  match v, hv with
  | u :: v, _ =>
    simp only [varsKT, if_true, List.cons_append, List.nil_append] at h2
    obtain ⟨t, r2, rfl, h3, h4⟩ := kt_cons h2
    have hk : t.kind = 2 := congrArg Prod.fst h3
    have ht : t.text = u := bytes_of_list (congrArg Prod.snd h3)
    obtain ⟨r3, h5, h6⟩ := gives_vars v r2 _ h4 (by simp [sg])
    obtain ⟨r4, h7, h8⟩ := must_kt (s := sRbra) h6
    obtain ⟨r5, h9, h10⟩ := must_kt (s := sColon) h8
    obtain ⟨r6, h11, h12⟩ := hg r5 ts h10 hs
    refine ⟨r6, ?_, h12⟩
    unfold boundStep
    rw [h1, Rd.bind_ok]
    unfold rowR
    rw [kindK_cons, if_pos hk, Rd.bind_ok, h5, Rd.map_ok, Rd.bind_ok, h7, Rd.bind_ok, h9, Rd.bind_ok, h11, Rd.map_ok, ht]
theorem gives_eq {x y : Ex} (hx : ExGives x) (hy : ExGives y) {ks : List Tok} {ts : List (Int × List UInt8)} (hs : stopU ts) :
    (ks.map Tok.kt = x.toks ++ (sg [61] :: (y.toks ++ ts)) → Gives (rUnit ks) (fEq x y) ts) ∧ (ks.map Tok.kt = x.toks ++ (sg [33, 61] :: (y.toks ++ ts)) → Gives (rUnit ks) (fNot (fEq x y)) ts) := by
  constructor
  · intro h
    obtain ⟨n6, k, hk, k3⟩ := name_head (x := x) (ts := sg [61] :: (y.toks ++ ts))
    obtain ⟨r1, h1, h2⟩ := hx ks _ h (by simp [sg])
    obtain ⟨r2, h3, h4⟩ := take_kt (s := sEq) h2
    obtain ⟨r3, h5, h6⟩ := hy r2 ts h4 hs.1
    refine ⟨r3, ?_, h6⟩
    rw [bkUnit_atom h n6, atomic_term h hk k3, h1, Rd.bind_ok, h3]
    simp only
    rw [h5, Rd.map_ok]
  · intro h
    obtain ⟨n6, k, hk, k3⟩ := name_head (x := x) (ts := sg [33, 61] :: (y.toks ++ ts))
    obtain ⟨r1, h1, h2⟩ := hx ks _ h (by simp [sg])
    have h0 : takeS sEq r1 = none := take_kt_no h2 (by simp [sg, sEq])
    obtain ⟨r2, h3, h4⟩ := take_kt (s := sNe) h2
    obtain ⟨r3, h5, h6⟩ := hy r2 ts h4 hs.1
    refine ⟨r3, ?_, h6⟩
    rw [bkUnit_atom h n6, atomic_term h hk k3, h1, Rd.bind_ok, h0]
    simp only
    rw [h3]
    simp only
    rw [h5, Rd.map_ok]
theorem gives_const {b : Bool} {ks : List Tok} {ts : List (Int × List UInt8)} (h : ks.map Tok.kt = (3, if b then sTrue' else sFalse') :: ts) : Gives (rUnit ks) (if b then fTrue else fFalse) ts := by
  have ha := bkUnit_atom h (fun w hw => by simp [sg] at hw)
  obtain ⟨t, r, rfl, h1, h2⟩ := kt_cons h
  have hk : t.kind = 3 := congrArg Prod.fst h1
  refine ⟨r, ?_, h2⟩
  rw [ha]
  unfold rAtomic
  cases b with
  | true =>
    have ht : t.text = sTrue := bytes_of_list (congrArg Prod.snd h1)
    rw [if_pos (by simp [hk, ht])]; rfl
  | false =>
    have ht : t.text = sFalse := bytes_of_list (congrArg Prod.snd h1)
    rw [if_neg (by simp [hk, ht]; decide), if_pos (by simp [hk, ht])]; rfl
theorem rd_fm (f : Fm) : f.may = true → UGives f ∧ FGives f := by
  induction f using Fm.ind with
  | h o v t l ih =>
    intro hm
    simp only [Fm.may, Bool.and_eq_true] at hm
    obtain ⟨hm, hms⟩ := hm
    rw [Fm.mays_all, List.all_eq_true] at hms
    obtain ⟨hv, ht, ht3, hc⟩ := topMay_inv hm
    have ihU : ∀ e ∈ l, UGives e := fun e he => (ih e he (hms e he)).1
    -- from a unit's reading, both
    have both : (¬ (6 ≤ o ∧ o ≤ 10)) → (∀ (ks : List Tok) (ts : List (Int × List UInt8)), ks.map Tok.kt = (Fm.mk o v t l).toks ++ ts → stopU ts → Gives (rUnit ks) (.mk o v t l) ts) → UGives (.mk o v t l) ∧ FGives (.mk o v t l) := fun ho hu => by
      refine ⟨fun ks ts h hs => ?_, fun ks ts h hs => form_of_unit (hu ks ts h hs.1) hs⟩
      rw [show unitKT (Fm.mk o v t l).op (Fm.mk o v t l).toks = (Fm.mk o v t l).toks from if_neg ho] at h
      exact hu ks ts h hs
    -- from a formula's
    have brack : (6 ≤ o ∧ o ≤ 10) → FGives (.mk o v t l) → UGives (.mk o v t l) ∧ FGives (.mk o v t l) := fun ho hf => by
      refine ⟨fun ks ts h hs => ?_, hf⟩
      rw [show unitKT (Fm.mk o v t l).op (Fm.mk o v t l).toks = sg [40] :: ((Fm.mk o v t l).toks ++ [sg [41]]) from if_pos ho, List.cons_append, List.append_assoc] at h
      obtain ⟨r1, h1, h2⟩ := take_kt (s := sLpar) h
      obtain ⟨r2, h3, h4⟩ := hf r1 _ h2 ⟨by simp [stopU, sg], fun w hw => by simp [sg] at hw; subst hw; decide⟩
      obtain ⟨r3, h5, h6⟩ := must_kt (s := sRpar) h4
      refine ⟨r3, ?_, h6⟩
      rw [rUnit_eq]
      unfold unitStep
      rw [take_kt_no (s := sNot) h (by simp [sg, sNot]), take_kt_no (s := sAll) h (by simp [sg, sAll]), take_kt_no (s := sSome) h (by simp [sg, sSome]), h1]
      simp only
      have h3' : formStep rUnit r1 = .ok (.mk o v t l) r2 := h3
      rw [h3', Rd.bind_ok, h5, Rd.map_ok]
    rcases hc with ⟨ho, rfl, rfl, hn⟩ | ⟨rfl, rfl, h1, hn⟩ | ⟨rfl, rfl, h1, hn⟩ | ⟨rfl, rfl, rfl, hn⟩ | ⟨ho, rfl, rfl, hn⟩ | ⟨ho, rfl, rfl, hn⟩ | ⟨ho, h1, rfl, hn⟩
    · have hl := List.eq_nil_of_length_eq_zero hn
      subst hl
      rcases ho with rfl | rfl
      · exact both (by omega) fun ks ts h hs => gives_const (b := true) (by simpa [Fm.toks] using h)
      · exact both (by omega) fun ks ts h hs => gives_const (b := false) (by simpa [Fm.toks] using h)
    · have hl := List.eq_nil_of_length_eq_zero hn
      subst hl
      match t, h1 with
      | [x], _ =>
      refine both (by omega) fun ks ts h hs => ?_
      have h : ks.map Tok.kt = x.toks ++ ts := by simpa [Fm.toks, atomKT] using h
      obtain ⟨n6, k, hk, k3⟩ := name_head (x := x) (ts := ts)
      obtain ⟨r1, h1, h2⟩ := rd_ex x (ht x (by simp)) ks _ h hs.1
      refine ⟨r1, ?_, h2⟩
      rw [bkUnit_atom h n6, atomic_term h hk k3, h1, Rd.bind_ok, take_kt_no (s := sEq) h2 hs.2.1]
      simp only
      rw [take_kt_no (s := sNe) h2 hs.2.2]
      simp only
      rw [ht3 rfl x (by simp)]
      rfl
    · have hl := List.eq_nil_of_length_eq_zero hn
      subst hl
      match t, h1 with
      | [x, y], _ =>
      refine both (by omega) fun ks ts h hs => ?_
      exact (gives_eq (rd_ex x (ht x (by simp))) (rd_ex y (ht y (by simp))) hs).1 (by simpa [Fm.toks, eqKT, List.append_assoc] using h)
    · match l, hn with
      | [g], _ =>
      refine both (by omega) fun ks ts h hs => ?_
      rw [Fm.text5.2] at h
      by_cases hg : (List.head? [g]).map Fm.op = some 4
      · rw [if_pos hg] at h
        have hgm := hms g (by simp)
        obtain ⟨og, vg, tg, lg⟩ := g
        simp only [List.head?_cons, Option.map_some, Option.some.injEq, Fm.op] at hg
        subst hg
        simp only [Fm.may, Bool.and_eq_true] at hgm
        obtain ⟨-, ht', -, hc'⟩ := topMay_inv hgm.1
        have hc2 : vg = [] ∧ tg.length = 2 ∧ lg.length = 0 := by
          rcases hc' with h | h | h | h | h | h | h <;> first | omega | exact ⟨h.2.1, h.2.2⟩
        obtain ⟨rfl, ht2, hl0⟩ := hc2
        have hl := List.eq_nil_of_length_eq_zero hl0
        subst hl
        match tg, ht2 with
        | [x, y], _ =>
        simp only [List.head?_cons, Option.map_some, Fm.terms, Option.getD_some, eqKT, List.append_assoc, List.cons_append, List.nil_append] at h
        exact (gives_eq (rd_ex x (ht' x (by simp))) (rd_ex y (ht' y (by simp))) hs).2 h
      · rw [if_neg hg] at h
        simp only [Fm.unitsKT, if_true, List.nil_append, List.append_nil, List.cons_append] at h
        obtain ⟨r1, h1, h2⟩ := take_kt (s := sNot) h
        obtain ⟨r2, h3, h4⟩ := ihU g (by simp) r1 ts h2 hs
        refine ⟨r2, ?_, h4⟩
        rw [rUnit_eq]
        unfold unitStep
        rw [h1]
        simp only
        rw [h3, Rd.map_ok]
        rfl
    · refine brack (by omega) fun ks ts h hs => ?_
      match l, hn with
      | e :: l, hn =>
      simp only [List.length_cons] at hn
      have hl : 1 ≤ l.length := by omega
      rw [(Fm.text6 (by omega) (by omega)).2] at h
      obtain ⟨e2, l, rfl⟩ : ∃ e2 l', l = e2 :: l' := by cases l with
        | nil => simp at hl
        | cons a b => exact ⟨a, b, rfl⟩
      rcases ho with rfl | rfl
      · have hk : signKT 6 = [sg [38]] := rfl
        rw [hk, Fm.unitsKT, if_pos rfl, List.nil_append, List.append_assoc] at h
        obtain ⟨r1, h1, h2⟩ := ihU e (by simp) ks _ h (by simp [Fm.unitsKT, stopU, sg])
        have h2' := h2
        simp only [Fm.unitsKT, Bool.false_eq_true, if_false, List.cons_append, List.nil_append] at h2'
        obtain ⟨t, r, rfl, h3, h4⟩ := kt_cons h2'
        have hkd : t.kind = 6 := congrArg Prod.fst h3
        have htx : t.text = sAnd := bytes_of_list (congrArg Prod.snd h3)
        obtain ⟨r3, h5, h6⟩ := more_units (sep := sAnd) (e2 :: l) (fun x hx => ihU x (by simp at hx; simp [hx])) (t :: r) ts h2 hs.1 (fun hh => hs.2 _ hh (by decide)) (by simp [stopU, sg, sAnd])
        refine ⟨r3, ?_, h6⟩
        unfold rForm formStep
        rw [h1, Rd.bind_ok, behindStep_cons, if_neg (fun h => h hkd), if_pos htx, h5, Rd.map_ok]
        rfl
      · have hk : signKT 7 = [sg [124]] := rfl
        rw [hk, Fm.unitsKT, if_pos rfl, List.nil_append, List.append_assoc] at h
        obtain ⟨r1, h1, h2⟩ := ihU e (by simp) ks _ h (by simp [Fm.unitsKT, stopU, sg])
        have h2' := h2
        simp only [Fm.unitsKT, Bool.false_eq_true, if_false, List.cons_append, List.nil_append] at h2'
        obtain ⟨t, r, rfl, h3, h4⟩ := kt_cons h2'
        have hkd : t.kind = 6 := congrArg Prod.fst h3
        have htx : t.text = sOr := bytes_of_list (congrArg Prod.snd h3)
        obtain ⟨r3, h5, h6⟩ := more_units (sep := sOr) (e2 :: l) (fun x hx => ihU x (by simp at hx; simp [hx])) (t :: r) ts h2 hs.1 (fun hh => hs.2 _ hh (by decide)) (by simp [stopU, sg, sOr])
        refine ⟨r3, ?_, h6⟩
        unfold rForm formStep
        rw [h1, Rd.bind_ok, behindStep_cons, if_neg (fun h => h hkd), if_neg (by rw [htx]; decide), if_pos htx, h5, Rd.map_ok]
        rfl
    · refine brack (by omega) fun ks ts h hs => ?_
      match l, hn with
      | [e, e2], _ =>
      rw [(Fm.text6 (by omega) (by omega)).2] at h
      have go : ∀ (s : ByteArray) (b : Fm → Fm → Fm), signKT o = [sg s.data.toList] → s ≠ sAnd → s ≠ sOr → binary s = some b → b e e2 = .mk o [] [] [e, e2] → stopU [sg s.data.toList] → Gives (rForm ks) (.mk o [] [] [e, e2]) ts := fun s b hk hA hO hb hbe hst => by
        rw [hk] at h
        simp only [Fm.unitsKT, if_true, Bool.false_eq_true, if_false, List.nil_append, List.append_nil, List.cons_append, List.append_assoc] at h
        obtain ⟨r1, h1, h2⟩ := ihU e (by simp) ks _ h hst
        obtain ⟨t, r, rfl, h3, h4⟩ := kt_cons h2
        have hkd : t.kind = 6 := congrArg Prod.fst h3
        have htx : t.text = s := bytes_of_list (congrArg Prod.snd h3)
        obtain ⟨r2, h5, h6⟩ := ihU e2 (by simp) r ts h4 hs.1
        refine ⟨r2, ?_, h6⟩
        unfold rForm formStep
        rw [h1, Rd.bind_ok, behindStep_cons, if_neg (fun h => h hkd), htx, if_neg hA, if_neg hO, hb]
        simp only
        rw [h5, Rd.map_ok, hbe]
      rcases ho with rfl | rfl | rfl
      · exact go sImp _ rfl (by decide) (by decide) (by unfold binary; rw [if_pos rfl]) rfl (by simp [stopU, sg, sImp])
      · exact go sIff _ rfl (by decide) (by decide) (by unfold binary; rw [if_neg (by decide), if_neg (by decide), if_pos rfl]) rfl (by simp [stopU, sg, sIff])
      · exact go sXor _ rfl (by decide) (by decide) (by unfold binary; rw [if_neg (by decide), if_neg (by decide), if_neg (by decide), if_pos rfl]) rfl (by simp [stopU, sg, sXor])
    · match l, hn with
      | [g], _ =>
      refine both (by omega) fun ks ts h hs => ?_
      rw [(Fm.text11 (by omega)).2] at h
      simp only [Fm.unitsKT, if_true, List.nil_append, List.append_nil] at h
      rcases ho with rfl | rfl
      · have hk : signKT 11 = [sg [33], sg [91]] := rfl
        rw [hk] at h
        simp only [List.cons_append, List.nil_append, List.append_assoc] at h
        obtain ⟨r1, h2, h3⟩ := take_kt (s := sAll) h
        obtain ⟨r2, h4, h5⟩ := gives_bound (op := 11) (ihU g (by simp)) h1 h3 hs
        refine ⟨r2, ?_, h5⟩
        rw [rUnit_eq]
        unfold unitStep
        rw [take_kt_no (s := sNot) h (by simp [sg, sNot]), h2]
        exact h4
      · have hk : signKT 12 = [sg [63], sg [91]] := rfl
        rw [hk] at h
        simp only [List.cons_append, List.nil_append, List.append_assoc] at h
        obtain ⟨r1, h2, h3⟩ := take_kt (s := sSome) h
        obtain ⟨r2, h4, h5⟩ := gives_bound (op := 12) (ihU g (by simp)) h1 h3 hs
        refine ⟨r2, ?_, h5⟩
        rw [rUnit_eq]
        unfold unitStep
        rw [take_kt_no (s := sNot) h (by simp [sg, sNot]), take_kt_no (s := sAll) h (by simp [sg, sAll]), h2]
        exact h4
/-- the text of a formula that may be, cut and read -/
theorem read_written {f : Fm} (h : f.may = true) {s : ByteArray} (hs : s.data.toList = f.text) : (cutFrom s 0).2.2 = 0 ∧ ∃ t, rForm (cutFrom s 0).1 = .ok f [t] ∧ t.kind = 7 := by
  have hl := lex_fm f h [] [] (fun c hc => by cases hc) .nil
  simp only [List.append_nil] at hl
  obtain ⟨h1, h2⟩ := lex_cut hl s 0 (Nat.zero_le _) (by rw [List.drop_zero]; exact hs)
  obtain ⟨r, h3, h4⟩ := (rd_fm f h).2 _ _ h2 ⟨by simp [stopU, sg], fun w hw => by simp [sg] at hw⟩
  obtain ⟨t, r', rfl, h5, h6⟩ := kt_cons h4
  have : r' = [] := List.map_eq_nil_iff.1 h6
  subst this
  exact ⟨h1, t, h3, congrArg Prod.fst h5⟩
end Go.Proofs.Ytnclgkdpafhogaa
namespace Go.Proofs.Ytnclgkdpafhogaa
open Go.ChangeShapes Go.WideShapes Go.ChangeAt Go.RowKit
theorem Ex.same_false {a b : Ex} (h : a ≠ b) : Ex.same a b = false := by
  cases hs : Ex.same a b with
  | false => rfl
  | true => exact absurd ((Ex.same_iff a b).1 hs) h
end Go.Proofs.Ytnclgkdpafhogaa
namespace Go.Proofs.Ytnclgkdpafhogaa
open Go.ChangeShapes Go.WideShapes Go.ChangeAt Go.RowKit
theorem Fm.same_false {a b : Fm} (h : a ≠ b) : Fm.same a b = false := by
  cases hs : Fm.same a b with
  | false => rfl
  | true => exact absurd ((Fm.same_iff a b).1 hs) h
end Go.Proofs.Ytnclgkdpafhogaa
namespace Go.Proofs.Ytnclgkdpafhogaa
open Go.ChangeShapes Go.WideShapes Go.ChangeAt Go.RowKit
set_option maxHeartbeats 4000000 in
set_option maxRecDepth 100000 in
theorem equalEx_any {l l' : List Ex} {P Q : Nat → Prop} {w : World} (HI : ∀ k (h : k < l.length) (h' : k < l'.length) w' (_ : Ext w w') (x y z x' y' z' : Value), IsEx P w' x y z l[k] → IsEx Q w' x' y' z' l'[k] →
      Calls Try.prog 22 #[.agg #[x, y, z], .agg #[x', y', z']] w' fun e w'' => e = .returned (.bool (Ex.same l[k] l'[k])) ∧ Ext w' w'')
    {a a' : Option Addr} {c c' : Nat} (hn : l.length ≤ 1073741824) (hn' : l'.length ≤ 1073741824) (h : IsExs P w a l) (h' : IsExs Q w a' l') :
    Calls Try.prog 21 #[.slice a l.length c, .slice a' l'.length c', .func (.func 22) #[] #[]] w fun e w' => e = .returned (.bool (Ex.sames l l')) ∧ Ext w w' := by
  have HH := Lib.hid HI
  clear HI
  by_cases hll : l.length = l'.length
  case neg =>
    have q3 : ((l.length : Int) != (l'.length : Nat)) = true := by rw [bne_iff_ne]; omega
    have HR := Lib.hid (show Ex.sames l l' = false by
      cases hs : Ex.sames l l' with
      | false => rfl
      | true => exact absurd (by rw [(Ex.sames_iff l l').1 hs]) hll)
    clear hll
    go_enter Try.func21, Try.ntmps21
    go_wp2_with fail
    go_ret
    exact ⟨ret_bool (by rw [HR.out]), Below.refl _ _⟩
  have q3 : ((l.length : Int) != (l'.length : Nat)) = false := by rw [bne_eq_false_iff_eq]; omega
  have HLL := Lib.hid hll
  clear hll
  go_enter Try.func21, Try.ntmps21
  go_wp2_with fail
  go_loopw [17] (fun i wr => ∃ k : Nat, k ≤ l.length ∧ i = .int .i64 k ∧ Ext w wr ∧ l.take k = l'.take k) (fun i _ => l.length - (intOf i).toNat)
  case atStart => exact ⟨0, Nat.zero_le _, rfl, Below.refl _ _, rfl⟩
  case round =>
    obtain ⟨k, hkk, rfl, hxr, hm⟩ := hrel
    have HM := Lib.hid hm
    clear hm
    by_cases hlt : k < l.length
    · have hlt2 : k < l'.length := by have := HLL.out; omega
      obtain ⟨b, o, a1, c1, rfl, hb, g1, g2, g3, hi⟩ := (IsExs.ext h hxr).look hlt
      obtain ⟨bb, oo, a2, c2, rfl, hbb, j1, j2, j3, hi'⟩ := (IsExs.ext h' hxr).look hlt2
      have hlt' : (k : Int) < l.length := by omega
      have hlt2' : (k : Int) < l'.length := by omega
      have HE := Lib.hid (fun w' (hx : Ext wr w') => HH.out k hlt hlt2 w' (hxr.trans hx) _ _ _ _ _ _ (hi.ext hx) (hi'.ext hx))
      have HST := Lib.hid (show l.take (k + 1) = l.take k ++ [l[k]] from List.take_succ_eq_append_getElem hlt)
      have HST' := Lib.hid (show l'.take (k + 1) = l'.take k ++ [l'[k]] from List.take_succ_eq_append_getElem hlt2)
      obtain ⟨V, hV⟩ : ∃ V, V = (wr.alloc (.cells #[.bool l[k].var, .string l[k].name, .slice a1 l[k].args.length c1] 67)).alloc (.cells #[.bool l'[k].var, .string l'[k].name, .slice a2 l'[k].args.length c2] 67) := ⟨_, rfl⟩
      have hxV : Ext wr V := by rw [hV]; exact (ext_alloc _ _).alloc _
      have hxA := ext_alloc wr (.cells #[.bool l[k].var, .string l[k].name, .slice a1 l[k].args.length c1] 67)
      have i1 := hxA.cell j1; have i2 := hxA.cell j2; have i3 := hxA.cell j3
      cases hs : Ex.same l[k] l'[k] with
      | true =>
        rw [hs] at HE
        have HEQ := Lib.hid ((Ex.same_iff _ _).1 hs)
        clear hs
        go_wp2_with (rw [← hV]; clear hV; go_at_call 22; refine (HE.out _ hxV).mono ?_; rintro e w1 ⟨rfl, hx1⟩)
        go_roundw
        case rel => exact ⟨k + 1, by omega, by go_num, hxr.trans (hxV.trans hx1), by rw [HST.out, HST'.out, HM.out, HEQ.out]⟩
        case measure => simp [intOf]; omega
      | false =>
        rw [hs] at HE
        have HR := Lib.hid (show Ex.sames l l' = false by
          cases hs2 : Ex.sames l l' with
          | false => rfl
          | true =>
            have := (Ex.sames_iff l l').1 hs2
            subst this
            rw [(Ex.same_iff _ _).2 rfl] at hs
            cases hs)
        clear hs
        go_wp2_with (rw [← hV]; clear hV; go_at_call 22; refine (HE.out _ hxV).mono ?_; rintro e w1 ⟨rfl, hx1⟩)
        go_ret
        exact ⟨ret_bool (by rw [HR.out]), hxr.trans (hxV.trans hx1)⟩
    · have hlt' : ¬ (k : Int) < l.length := by omega
      have hke : k = l.length := by omega
      have HR := Lib.hid (show Ex.sames l l' = true by
        have h1 := HM.out
        rw [hke, List.take_length, HLL.out, List.take_length] at h1
        exact (Ex.sames_iff _ _).2 h1)
      clear hke
      go_wp2_with fail
      go_ret
      exact ⟨ret_bool (by rw [HR.out]), hxr⟩

set_option maxHeartbeats 4000000 in
set_option maxRecDepth 100000 in
theorem sameExpr_any (t : Ex) : ∀ (u : Ex) (P Q : Nat → Prop) (w : World) (x y z x' y' z' : Value), IsEx P w x y z t → IsEx Q w x' y' z' u → t.size ≤ 4194304 → u.size ≤ 4194304 →
    Calls Try.prog 22 #[.agg #[x, y, z], .agg #[x', y', z']] w fun e w' => e = .returned (.bool (Ex.same t u)) ∧ Ext w w' := by
  induction t using Ex.ind with
  | h v nm l ih =>
    intro u P Q w x y z x' y' z' ht hu hs hs'
    obtain ⟨v', nm', l'⟩ := u
    obtain ⟨a, c, rfl, rfl, rfl, hn, hc1, hk⟩ := ht.form
    obtain ⟨a', c', rfl, rfl, rfl, hn', hc1', hk'⟩ := hu.form
    simp only [Ex.var, Ex.name, Ex.args] at hn hc1 hk hn' hc1' hk' ⊢
    simp only [Ex.size] at hs hs'
    have hkl := Ex.length_le_sizes l
    have hkl' := Ex.length_le_sizes l'
    have HE := Lib.hid (fun w' (hx : Ext w w') => equalEx_any (c := c) (c' := c') (fun k h h' w'' hx' x y z x' y' z' hi hi' => ih _ (List.getElem_mem h) l'[k] P Q w'' x y z x' y' z' hi hi' (by have := Ex.size_le_sizes h; omega) (by have := Ex.size_le_sizes h'; omega)) (by omega) (by omega) (hk.ext hx) (hk'.ext hx))
    clear ih ht hu hk hk'
    have hx0 : Ext w ((w.alloc (.cells #[.bool v, .string nm, .slice a l.length c] 67)).alloc (.cells #[.bool v', .string nm', .slice a' l'.length c'] 67)) := (ext_alloc _ _).alloc _
    by_cases hv : v = v'
    case neg =>
      have HR := Lib.hid (Ex.same_false (a := .mk v nm l) (b := .mk v' nm' l') (fun h => hv (by injection h)))
      have hvf : (v == v') = false := by rw [beq_eq_false_iff_ne]; exact hv
      go_enter Try.func22, Try.ntmps22
      go_wp2_with fail
      go_ret
      exact ⟨ret_bool (by rw [HR.out]), hx0⟩
    subst hv
    by_cases hnm : nm = nm'
    case neg =>
      have q2 : (nm.toList == nm'.toList) = false := bytes_ne' hnm
      have HR := Lib.hid (Ex.same_false (a := .mk v nm l) (b := .mk v nm' l') (fun h => hnm (by injection h)))
      clear hnm
      go_enter Try.func22, Try.ntmps22
      go_wp2_with fail
      go_ret
      exact ⟨ret_bool (by rw [HR.out]), hx0⟩
    subst hnm
    have q2 : (nm.toList == nm.toList) = true := bytes_eq' rfl
    have HR := Lib.hid (show Ex.same (.mk v nm l) (.mk v nm l') = Ex.sames l l' by simp [Ex.same])
    generalize Ex.sames l l' = ss at HE HR
    cases ss <;>
    · go_enter Try.func22, Try.ntmps22
      go_wp2_with (go_at_call 21; refine (HE.out _ hx0).mono ?_; rintro e w1 ⟨rfl, hx1⟩)
      go_ret
      exact ⟨ret_bool (by rw [HR.out]), hx0.trans hx1⟩
end Go.Proofs.Ytnclgkdpafhogaa
