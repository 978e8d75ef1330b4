/- How long a formula's text is; the reference's unitText, joined, from what text does. Conditions: formulas that may be, of at most 4194304 parts.
formula.writer: what expr, equation write. Conditions: terms that may be, of at most 4194304 parts; the text is shorter than 2^47.
What a reading of tokens from one of them on says. No condition.
The reference's text, whole; Text. Conditions: at most 4194304 parts.
slices.Clone over texts, formula.Copy. Condition: at most 4194304 parts.
What a text read as a formula gives. No condition.
A formula that is written is parsed as it was, or is too long to be; what is parsed may be. No condition.
The program's Same, whole. Condition: at most 4194304 parts. -/
import Derived.Test.YtnclgkdpafhogaaQ9
import Derived.Test.YtnclgkdpafhogaaQ13
import Derived.Test.YtnclgkdpafhogaaQ7
import Derived.Test.YtnclgkdpafhogaaQ8
import Derived.Test.YtnclgkdpafhogaaQ3
import Derived.Deep.RegionHeld3
import Derived.Test.YtnclgkdpafhogaaQ10
import Derived.Test.YtnclgkdpafhogaaQ15
import Derived.Test.YtnclgkdpafhogaaQ6
namespace Go.Proofs.Ytnclgkdpafhogaa
open Go.ChangeShapes Go.WideShapes Go.ChangeAt Go.RowKit
theorem unitW_len (op : Int) (s : List UInt8) : (unitW op s).length ≤ s.length + 2 := by
  unfold unitW; split <;> simp
theorem units_len : ∀ (l : List Fm), (∀ e ∈ l, e.text.length + 8 ≤ 60 * e.size) → ∀ (first : Bool) (sep : List UInt8), sep.length ≤ 5 → (Fm.units first sep l).length ≤ 60 * Fm.sizes l
  | [], _, _, _, _ => by simp [Fm.units]
  | e :: l, h, first, sep, hs => by
    have h1 := h e (by simp)
    have h2 := units_len l (fun x hx => h x (by simp [hx])) false sep hs
    have h3 := unitW_len e.op e.text
    have h4 : (if first then [] else sep).length ≤ 5 := by
      split
      · simp
      · exact hs
    simp only [Fm.units, Fm.sizes, List.length_append]
    omega
theorem vars_len : ∀ (l : List ByteArray), (∀ v ∈ l, upperS v = true) → ∀ (first : Bool), (varsText first l).length ≤ 41 * l.length
  | [], _, _ => by simp [varsText]
  | v :: l, h, first => by
    have h1 := h v (by simp)
    unfold upperS at h1
    rw [Bool.and_eq_true] at h1
    have h2 := named_size h1.1
    have e : v.data.toList.length = v.size := by simp
    have h3 := vars_len l (fun x hx => h x (by simp [hx])) false
    have h4 : (if first then [] else [(44 : UInt8)]).length ≤ 1 := by split <;> simp
    simp only [varsText, List.length_append, List.length_cons]
    omega
theorem signOf_len (op : Int) : (signOf op).length ≤ 5 := by
  unfold signOf
  repeat' split
  all_goals decide
theorem eqText_len {t : List Ex} (ht : t.length = 2) (hm : ∀ x ∈ t, x.may = true) {sep : List UInt8} (hs : sep.length ≤ 5) : (eqText sep t).length + 8 ≤ 50 * Ex.sizes t + 15 := by
  match t, ht with
  | [x, y], _ =>
    have h1 := x.text_len (hm x (by simp))
    have h2 := y.text_len (hm y (by simp))
    simp only [eqText, Ex.sizes, List.length_append]
    omega
theorem Fm.text_len (f : Fm) : f.may = true → f.text.length + 8 ≤ 60 * f.size := by
  induction f using Fm.ind with
  | h o v t l ih =>
    intro hm
    simp only [Fm.may, Bool.and_eq_true] at hm
    obtain ⟨hm, hms⟩ := hm
    rw [Fm.mays_all, List.all_eq_true] at hms
    obtain ⟨hv, ht, ht3, hc⟩ := topMay_inv hm
    have ih' : ∀ e ∈ l, e.text.length + 8 ≤ 60 * e.size := fun e he => ih e he (hms e he)
    have hu := fun first sep hs => units_len l ih' first sep hs
    have hso := signOf_len o
    have hul := hu true (signOf o) hso
    have hu0 := hu true [] (by decide)
    simp only [Fm.size]
    rcases hc with ⟨ho, rfl, rfl, hn⟩ | ⟨rfl, rfl, h1, hn⟩ | ⟨rfl, rfl, h1, hn⟩ | ⟨rfl, rfl, rfl, hn⟩ | ⟨ho, rfl, rfl, hn⟩ | ⟨ho, rfl, rfl, hn⟩ | ⟨ho, h1, rfl, hn⟩
    · rcases ho with rfl | rfl
      · rw [Fm.text1.1]; simp [sTrue']; omega
      · rw [Fm.text2.1]; simp [sFalse']; omega
    · rw [Fm.text3.1]
      match t, h1 with
      | [x], _ =>
        have := x.text_len (ht x (by simp))
        simp only [atomText, Ex.sizes]; omega
    · rw [Fm.text4.1]
      have := eqText_len h1 ht (sep := bEq) (by decide)
      omega
    · match l, hn with
      | [g], _ =>
      rw [Fm.text5.1]
      split
      · rename_i hg
        have hgm := hms g (by simp)
        obtain ⟨og, vg, tg, lg⟩ := g
        simp only [List.head?_cons, Option.map_some, Option.some.injEq, Fm.op] at hg
        subst hg
        simp only [Fm.may, Bool.and_eq_true] at hgm
        obtain ⟨-, ht', -, hc'⟩ := topMay_inv hgm.1
        have := eqText_len (by omega) ht' (sep := bNe) (by decide)
        simp only [List.head?_cons, Option.map_some, Fm.terms, Option.getD_some, Fm.sizes, Fm.size]
        omega
      · simp only [List.length_append, bNot, List.length_cons, List.length_nil]
        omega
    · rw [(Fm.text6 (by omega) (by omega)).1]; omega
    · rw [(Fm.text6 (by omega) (by omega)).1]; omega
    · rw [(Fm.text11 (by omega)).1]
      have := vars_len v (upperS_of_from hv) true
      simp only [List.length_append, bOf, List.length_cons, List.length_nil]
      omega
theorem units_take : ∀ (l : List Fm) (first : Bool) (sep : List UInt8) (k : Nat) (h : k < l.length), Fm.units first sep (l.take (k + 1)) = Fm.units first sep (l.take k) ++ ((if k = 0 ∧ first = true then [] else sep) ++ unitW l[k].op l[k].text)
  | [], _, _, _, h => by simp at h
  | e :: l, first, sep, 0, _ => by cases first <;> simp [Fm.units]
  | e :: l, first, sep, k + 1, h => by
    simp only [List.take_succ_cons, Fm.units, List.getElem_cons_succ, List.append_assoc]
    rw [units_take l false sep k (by simpa using h)]
    simp
end Go.Proofs.Ytnclgkdpafhogaa
namespace Go.Proofs.Ytnclgkdpafhogaa
open Go.ChangeShapes Go.WideShapes Go.ChangeAt Go.RowKit
theorem BFr.ext' {b : Nat} {w w' : World} (h : BFr b w w') {w0 : World} (h0 : Ext w0 w) (hb : w0.heap.size ≤ b) : Ext w0 w' := Below.trans h0 (h.below.mono hb)
theorem BFr.alloc' {b : Nat} {w w' : World} (h : BFr b w w') (hb : b ≤ w'.heap.size) (o : Obj) : BFr b w (w'.alloc o) := ⟨h.below.alloc hb o, h.kept.alloc o⟩
theorem BFr.drew {b : Nat} {w w' : World} (h : BFr b w w') : BFr b w w'.drew := ⟨Below.drew h.below, h.kept.drew⟩
theorem BFr.of_ext {b : Nat} {w w' : World} (h : Ext w w') (hb : b ≤ w.heap.size) : BFr b w w' := ⟨h.mono hb, fun k o hk _ _ => h.obj hk⟩
theorem BldT.alloc {T : TypeId} {b : Nat} {l : List UInt8} {w : World} (h : BldT T b l w) (o : Obj) : BldT T b l (w.alloc o) := Lib.IsBuilderF.alloc h o
theorem BldT.drew {T : TypeId} {b : Nat} {l : List UInt8} {w : World} (h : BldT T b l w) : BldT T b l w.drew := h
theorem BldT.ext {T : TypeId} {b : Nat} {l : List UInt8} {w w' : World} (h : BldT T b l w) (hx : Ext w w') : BldT T b l w' := by
  have row : ∀ {v : Value}, w.ownsRowF b 5 1 v (Lib.byteCells l).length (Lib.byteCells l) → w'.ownsRowF b 5 1 v (Lib.byteCells l).length (Lib.byteCells l) := by
    intro v h
    obtain ⟨h1, h2⟩ := h
    refine ⟨h1, ?_⟩
    rcases h2 with h2 | ⟨g, cap, cur, fz, h3, h4, h5, h6⟩
    · exact .inl h2
    · exact .inr ⟨g, cap, cur, fz, h3, h4, hx.obj h5, h6⟩
  rcases h with ⟨h1, v, h2, h3, h4⟩ | ⟨h1, v, h2, h3, h4⟩
  · exact .inl ⟨h1, v, hx.obj h2, row h3, h4⟩
  · exact .inr ⟨h1, v, hx.obj h2, row h3, h4⟩
theorem cell_obj' {w : World} {g : Nat} {c : Array Value} {t : TypeId} {fz : Nat × Nat} (h : w.heap[g]? = some (.cells c t fz)) (i : Nat) : w.cell? ⟨g, i, none⟩ = c[i]? := by
  simp [World.cell?, h]

/-- a writing call: from the writer at block b, that holds acc, to acc and s -/
def Writes (b : Nat) (acc s : List UInt8) (w : World) (e : Ending) (w' : World) : Prop := e = .returned (.tuple #[]) ∧ BldT 55 b (acc ++ s) w' ∧ BFr b w w'

theorem index_sep0 (w : World) : (Instr.index 9 (.string ⟨#[40, 44]⟩) (.int .i64 0)).run Try.prog w = .ok (.int .u8 40) w := by kernel_rfl
theorem index_sep1 (w : World) : (Instr.index 9 (.string ⟨#[40, 44]⟩) (.int .i64 1)).run Try.prog w = .ok (.int .u8 44) w := by kernel_rfl
theorem Ex.texts_take_le (l : List Ex) (c : UInt8) (k : Nat) : (Ex.texts c (l.take k)).length ≤ (Ex.texts c l).length := by
  induction l generalizing c k with
  | nil => simp [Ex.texts]
  | cons e l ih =>
    cases k with
    | zero => simp [Ex.texts]
    | succ k => have := ih 44 k; simp only [List.take_succ_cons, Ex.texts, List.length_cons, List.length_append]; omega
set_option maxHeartbeats 4000000 in
set_option maxRecDepth 100000 in
theorem wExpr_any (t : Ex) : t.may = true → ∀ (P : Nat → Prop) (w0 w : World) (b : Nat) (acc : List UInt8) (x y z : Value), IsEx P w0 x y z t → t.size ≤ 4194304 → Ext w0 w → w0.heap.size ≤ b → b < w.heap.size →
    BldT 55 b acc w → acc.length + t.text.length ≤ 140737488355328 →
    Calls Try.prog 34 #[.pointer (some ⟨b, 0, none⟩), .agg #[x, y, z]] w (Writes b acc t.text w) := by
  induction t using Ex.ind with
  | h v n l ih =>
    intro hm P w0 w b acc x y z ht hs hx0 hb0 hbw hbld hacc
    obtain ⟨a, c, rfl, rfl, rfl, hn, hc1, hk⟩ := ht.form
    simp only [Ex.var, Ex.name, Ex.args] at hn hc1 hk ⊢
    simp only [Ex.size] at hs
    have hkl := Ex.length_le_sizes l
    obtain ⟨W, hW⟩ : ∃ W, W = w.alloc (.cells #[.bool v, .string n, .slice a l.length c] 67) := ⟨_, rfl⟩
    have hfW : BFr b w W := by rw [hW]; exact (BFr.refl b w).alloc' (Nat.le_of_lt hbw) _
    have hbW : BldT 55 b acc W := by rw [hW]; exact hbld.alloc _
    have hoW : W.heap[w.heap.size]? = some (.cells #[.bool v, .string n, .slice a l.length c] 67 (0, 0)) := by rw [hW]; exact objNew _ _
    have hsW : b < W.heap.size := by rw [hW]; simp; omega
    have hx0W : Ext w0 W := hfW.ext' hx0 hb0
    have k0 := cell_obj' hoW 0
    have k1 := cell_obj' hoW 1
    have k2 := cell_obj' hoW 2
    simp only [List.getElem?_toArray, List.getElem?_cons_succ, List.getElem?_cons_zero] at k0 k1 k2
    -- the name that is written
    obtain ⟨q, hq, hms, hcase⟩ : ∃ q : ByteArray, q.data.toList = (if v then n.data.toList else (quoteS n).1.data.toList) ∧ Ex.mays l = true ∧ ((v = true ∧ q = n) ∨ (v = false ∧ q = (quoteS n).1)) := by
      cases v with
      | true =>
        simp only [Ex.may, if_true, Bool.and_eq_true, decide_eq_true_eq] at hm
        exact ⟨n, by simp, by rw [List.eq_nil_of_length_eq_zero hm.1]; rfl, .inl ⟨rfl, rfl⟩⟩
      | false =>
        simp only [Ex.may, Bool.false_eq_true, if_false, Bool.and_eq_true] at hm
        exact ⟨(quoteS n).1, by simp, hm.2, .inr ⟨rfl, rfl⟩⟩
    have eql : q.data.toList.length = q.size := by simp
    have HT : (Ex.mk v n l).text = q.data.toList ++ (Ex.texts 40 l ++ (if 0 < l.length then [41] else [])) := by simp only [Ex.text]; rw [hq]
    have hlen : acc.length + (q.size + ((Ex.texts 40 l).length + (if 0 < l.length then 1 else 0))) ≤ 140737488355328 := by
      rw [HT, List.length_append, List.length_append, eql] at hacc
      have : (if 0 < l.length then [(41 : UInt8)] else []).length = if 0 < l.length then 1 else 0 := by split <;> rfl
      omega
    replace HT := Lib.hid HT
    clear hq hm ht hacc
    have HIH := Lib.hid (fun (k : Nat) (h : k < l.length) w' (hx : Ext w0 w') (hb : b < w'.heap.size) (acc' : List UInt8) (hbl : BldT 55 b acc' w') (hac : acc'.length + l[k].text.length ≤ 140737488355328) (a' : Option Addr) (c' : Nat) (hi : IsEx P w0 (.bool l[k].var) (.string l[k].name) (.slice a' l[k].args.length c') l[k]) =>
      ih _ (List.getElem_mem h) (Ex.mays_at hms h) P w0 w' b acc' _ _ _ hi (by have := Ex.size_le_sizes h; omega) hx hb0 hb hbl hac)
    clear ih hms
    have hq42 : acc.length + q.size ≤ 140737488355328 := by omega
    have Hlen := Lib.hid hlen; clear hlen
    have HQ : (v = true ∧ W.cell? ⟨w.heap.size, 1, none⟩ = some (.string q)) ∨ (v = false ∧ W.cell? ⟨w.heap.size, 1, none⟩ = some (.string n) ∧ ∃ qb, Hid (∀ w, Calls Try.prog 59 #[.string n] w fun e w' => e = .returned (.tuple #[.string q, .bool qb]) ∧ w = w')) := by
      rcases hcase with ⟨h1, h2⟩ | ⟨h1, h2⟩
      · exact .inl ⟨h1, by rw [h2]; exact k1⟩
      · exact .inr ⟨h1, k1, (quoteS n).2, Lib.hid (by rw [h2]; exact fun w => tokQuote_any n hn w)⟩
    clear hcase k1
    generalize (Ex.mk v n l).text = TT at HT ⊢
    rcases HQ with ⟨hv, k1⟩ | ⟨hv, k1, qb, HQC⟩
    all_goals
      subst hv
      go_enter Try.func34, Try.ntmps34
      go_upto_region 1 with fail
      rw [← hW]
      clear hW
      go_wp2_with (first | (go_at_call 59; refine (HQC.out _).mono ?_; rintro e w2 ⟨rfl, rfl⟩) | (go_at_call 33; refine (writeStringT_any wb_writer b acc q _ hbW hq42 (Nat.le_of_lt hsW)).mono ?_; rintro e w3 ⟨rfl, hb3, hf3⟩; have hoW3 := hf3.obj hoW (by omega) (by decide); have m2 := cell_obj' hoW3 2; simp only [List.getElem?_toArray, List.getElem?_cons_succ, List.getElem?_cons_zero] at m2))
      clear k0 k1 k2 hoW3
      go_loopw [25] (fun iv wr => ∃ k : Nat, k ≤ l.length ∧ iv = .int .i64 k ∧ BldT 55 b (acc ++ q.data.toList ++ Ex.texts 40 (l.take k)) wr ∧ BFr b W wr) (fun i _ => l.length - (intOf i).toNat)
      case atStart => exact ⟨0, Nat.zero_le _, rfl, by simpa [Ex.texts] using hb3, hf3⟩
      case round =>
        obtain ⟨k, hkk, rfl, hbr, hfr⟩ := hrel
        have hor := hfr.obj hoW (by omega) (by decide)
        have hsr := hfr.below.size
        have m2 := cell_obj' hor 2
        simp only [List.getElem?_toArray, List.getElem?_cons_succ, List.getElem?_cons_zero] at m2
        by_cases hlt : k < l.length
        · have hk1 : (k : Int) < l.length := by omega
          have hxr := hfr.ext' hx0W hb0
          obtain ⟨b', o', a', c', rfl, -, g1, g2, g3, hi⟩ := hk.look hlt
          have g1' := hxr.cell g1
          have g2' := hxr.cell g2
          have g3' := hxr.cell g3
          have hst := Ex.texts_take l 40 k hlt
          have htl := Ex.texts_take_le l 40 (k + 1)
          have hl0 := Hlen.out
          rw [hst] at htl
          simp only [List.length_append, List.length_cons] at htl
          have Hst := Lib.hid hst; clear hst
          obtain ⟨V, hV⟩ : ∃ V, V = wr.alloc (.cells #[.bool l[k].var, .string l[k].name, .slice a' l[k].args.length c'] 67) := ⟨_, rfl⟩
          have hbV : BldT 55 b (acc ++ q.data.toList ++ Ex.texts 40 (l.take k)) V := by rw [hV]; exact hbr.alloc _
          have hfV : BFr b W V := by rw [hV]; exact hfr.alloc' (by omega) _
          have hoV : V.heap[wr.heap.size]? = some (.cells #[.bool l[k].var, .string l[k].name, .slice a' l[k].args.length c'] 67 (0, 0)) := by rw [hV]; exact objNew _ _
          have hle : (acc ++ q.data.toList ++ Ex.texts 40 (l.take k)).length + 1 ≤ 140737488355328 := by simp only [List.length_append]; omega
          have hsV : b < V.heap.size := by have := hfV.below.size; omega
          obtain ⟨cb, cz, ci, hmin, hcz, hcb, hix⟩ : ∃ (cb : UInt8) (cz ci : Int), min (k : Int) 1 = ci ∧ cz = (cb.toNat : Int) ∧ cb = (if k = 0 then (40 : UInt8) else 44) ∧ ∀ w : World, (Instr.index 9 (.string ⟨#[40, 44]⟩) (.int .i64 ci)).run Try.prog w = .ok (.int .u8 cz) w := by
            by_cases hz : k = 0
            · exact ⟨40, 40, 0, by omega, by decide, by rw [if_pos hz], index_sep0⟩
            · exact ⟨44, 44, 1, by omega, by decide, by rw [if_neg hz], index_sep1⟩
          rw [← hcb] at Hst
          have HWB := Lib.hid (fun w' (hb : BldT 55 b (acc ++ q.data.toList ++ Ex.texts 40 (l.take k)) w') (hs : b ≤ w'.heap.size) => writeByteT_any wb_writer b _ cb w' hb hle hs)
          rw [← hcz] at HWB
          have hle2 : (acc ++ q.data.toList ++ Ex.texts 40 (l.take k) ++ [cb]).length + l[k].text.length ≤ 140737488355328 := by simp only [List.length_append, List.length_cons, List.length_nil]; omega
          clear hcz hcb hle htl hl0
          go_wp2_with fail
          rw [← hV]
          clear hV
          go_still_tail 6, (by kernel_rfl)
          change wpList _ _ _ _ _ V.drew
          go_wp2_with (first
            | (go_at_call 60; refine (HWB.out _ hbV.drew (Nat.le_of_lt hsV)).mono ?_; rintro e w4 ⟨rfl, hb4, hf4⟩; have ho4 := hf4.obj (show V.drew.heap[wr.heap.size]? = _ from hoV) (by omega) (by decide); have n0 := cell_obj' ho4 0; have n1 := cell_obj' ho4 1; have n2 := cell_obj' ho4 2; simp only [List.getElem?_toArray, List.getElem?_cons_succ, List.getElem?_cons_zero] at n0 n1 n2; have hf5 := hfV.drew.trans hf4; have hx5 := hf5.ext' hx0W hb0; have hs5 := hf4.below.size)
            | (go_at_call 34; refine (HIH.out k hlt w4 hx5 (by have : V.drew.heap.size = V.heap.size := rfl; omega) _ hb4 hle2 a' c' hi).mono ?_; rintro e w6 ⟨rfl, hb6, hf6⟩))
          go_roundw
          case rel => exact ⟨k + 1, by omega, by go_num, by rw [Hst.out]; simpa [List.append_assoc] using hb6, hf5.trans hf6⟩
          case measure => simp [intOf]; omega
        · have hk1 : ¬ (k : Int) < l.length := by omega
          have hke : k = l.length := by omega
          rw [hke, List.take_length] at hbr
          have hl0 := Hlen.out
          clear hke
          by_cases h0 : 0 < l.length
          · have hd0 : decide ((0 : Int) < (l.length : Nat)) = true := decide_eq_true (by omega)
            have h0' : (0 : Int) < (l.length : Nat) := by omega
            rw [if_pos h0] at hl0
            replace HT := Lib.hid (show TT = q.data.toList ++ (Ex.texts 40 l ++ [41]) by rw [HT.out, if_pos h0])
            have hle : (acc ++ q.data.toList ++ Ex.texts 40 l).length + 1 ≤ 140737488355328 := by simp only [List.length_append]; omega
            clear h0 hl0
            go_wp2_with (go_at_call 60; refine (writeByteT_any wb_writer b _ 41 _ hbr hle (by omega)).mono ?_; rintro e w4 ⟨rfl, hb4, hf4⟩)
            go_returns
            exact ⟨rfl, by rw [HT.out]; simpa [List.append_assoc] using hb4, (hfW.trans hfr).trans hf4⟩
          · have hd0 : decide ((0 : Int) < (l.length : Nat)) = false := decide_eq_false (by omega)
            have h0' : ¬ (0 : Int) < (l.length : Nat) := by omega
            replace HT := Lib.hid (show TT = q.data.toList ++ Ex.texts 40 l by rw [HT.out, if_neg h0, List.append_nil])
            clear h0 hl0
            go_wp2_with fail
            go_returns
            exact ⟨rfl, by rw [HT.out]; simpa [List.append_assoc] using hbr, hfW.trans hfr⟩

set_option maxHeartbeats 4000000 in
set_option maxRecDepth 100000 in
/-- equation: the first term, the sign, the second one -/
theorem wEquation_any {P : Nat → Prop} {w0 w : World} {b : Nat} {acc : List UInt8} {x y z u : Value} {f : Fm} {e1 e2 : Ex} (hte : f.terms = [e1, e2]) (hm1 : e1.may = true) (hm2 : e2.may = true) (h1s : e1.size ≤ 4194304) (h2s : e2.size ≤ 4194304) (sep : ByteArray) (ht : IsFm P w0 x y z u f) (hx0 : Ext w0 w) (hb0 : w0.heap.size ≤ b) (hbw : b < w.heap.size)
    (hbld : BldT 55 b acc w) (hlen : acc.length + (e1.text.length + (sep.size + e2.text.length)) ≤ 140737488355328) :
    Calls Try.prog 35 #[.pointer (some ⟨b, 0, none⟩), .agg #[x, y, z, u], .string sep] w (Writes b acc (e1.text ++ (sep.data.toList ++ e2.text)) w) := by
  obtain ⟨b1, c1, b2, c2, b3, c3, rfl, rfl, rfl, rfl, -, -, -, htc, -, -, hts, -⟩ := ht.form
  rw [hte] at hts htc ⊢
  obtain ⟨W, hW⟩ : ∃ W, W = w.alloc (.cells #[.int .i64 f.op, .slice b1 f.vars.length c1, .slice b2 [e1, e2].length c2, .slice b3 f.args.length c3] 27) := ⟨_, rfl⟩
  have hfW : BFr b w W := by rw [hW]; exact (BFr.refl b w).alloc' (Nat.le_of_lt hbw) _
  have hbW : BldT 55 b acc W := by rw [hW]; exact hbld.alloc _
  have hoW : W.heap[w.heap.size]? = some (.cells #[.int .i64 f.op, .slice b1 f.vars.length c1, .slice b2 [e1, e2].length c2, .slice b3 f.args.length c3] 27 (0, 0)) := by rw [hW]; exact objNew _ _
  have hsW : b < W.heap.size := by rw [hW]; simp; omega
  have hx0W : Ext w0 W := hfW.ext' hx0 hb0
  have k2 := cell_obj' hoW 2
  simp only [List.getElem?_toArray, List.getElem?_cons_succ, List.getElem?_cons_zero] at k2
  obtain ⟨b', o', a1, d1, rfl, -, g1, g2, g3, hi1⟩ := hts.look (i := 0) (by simp)
  obtain ⟨b'', o'', a2, d2, he, -, g4, g5, g6, hi2⟩ := hts.look (i := 1) (by simp)
  injection he with he; injection he with he1 he2 _
  subst he1; subst he2
  simp only [List.getElem_cons_zero, List.getElem_cons_succ, Nat.zero_mul, Nat.add_zero, Nat.one_mul, List.length_cons, List.length_nil, Nat.zero_add, Nat.reduceAdd] at g1 g2 g3 g4 g5 g6 hi1 hi2 hoW hW k2
  have g1' := hx0W.cell g1
  have g2' := hx0W.cell g2
  have g3' := hx0W.cell g3
  have H1 := Lib.hid (fun (hac : acc.length + e1.text.length ≤ 140737488355328) => wExpr_any e1 hm1 P w0 W b acc _ _ _ hi1 h1s hx0W hb0 hsW hbW hac)
  have H2 := Lib.hid (fun w' (hx : Ext w0 w') (hb : b < w'.heap.size) (acc' : List UInt8) (hbl : BldT 55 b acc' w') (hac : acc'.length + e2.text.length ≤ 140737488355328) => wExpr_any e2 hm2 P w0 w' b acc' _ _ _ hi2 h2s hx hb0 hb hbl hac)
  have q1 : acc.length + e1.text.length ≤ 140737488355328 := by omega
  have q2 : (acc ++ e1.text).length + sep.size ≤ 140737488355328 := by simp only [List.length_append]; omega
  have q3 : (acc ++ e1.text ++ sep.data.toList).length + e2.text.length ≤ 140737488355328 := by
    have : sep.data.toList.length = sep.size := by simp
    simp only [List.length_append]; omega
  have Hts := Lib.hid hts
  clear hi1 hi2 hts hlen hm1 hm2 ht
  simp only [List.length_cons, List.length_nil, Nat.zero_add, Nat.reduceAdd]
  go_enter Try.func35, Try.ntmps35
  go_upto_region 1 with fail
  rw [← hW]
  clear hW
  go_wp2_with (first
    | (go_at_call 34; refine (H1.out q1).mono ?_; rintro e w3 ⟨rfl, hb3, hf3⟩; have hoW3 := hf3.obj hoW (by omega) (by decide); have m2 := cell_obj' hoW3 2; simp only [List.getElem?_toArray, List.getElem?_cons_succ, List.getElem?_cons_zero] at m2; have hs3 := hf3.below.size; clear H1)
    | (go_at_call 33; refine (writeStringT_any wb_writer b _ sep _ hb3 q2 (by omega)).mono ?_; rintro e w4 ⟨rfl, hb4, hf4⟩; have hoW4 := hf4.obj hoW3 (by omega) (by decide); have m3 := cell_obj' hoW4 2; simp only [List.getElem?_toArray, List.getElem?_cons_succ, List.getElem?_cons_zero] at m3; have hs4 := hf4.below.size; have hf5 := hf3.trans hf4; have hx5 := hf5.ext' hx0W hb0; have n1 := hx5.cell g4; have n2 := hx5.cell g5; have n3 := hx5.cell g6)
    | (go_at_call 34; refine (H2.out w4 hx5 (by omega) _ hb4 q3).mono ?_; rintro e w6 ⟨rfl, hb6, hf6⟩))
  go_returns
  exact ⟨rfl, by simpa [List.append_assoc] using hb6, hfW.trans (hf5.trans hf6)⟩
end Go.Proofs.Ytnclgkdpafhogaa
namespace Go.Proofs.Ytnclgkdpafhogaa
open Go.ChangeShapes Go.WideShapes Go.ChangeAt Go.RowKit
def Fm.zero : Fm := .mk 0 [] [] []
/-- a formula from tokens on: the formula, the place of the next token or of the first one that can't stand there, the error -/
def readS (l : List Tok) (from' : Int) : Fm × Int × Int :=
  if from' < 0 ∨ (l.length : Int) ≤ from' then (Fm.zero, 0, 230)
  else match rForm (l.drop from'.toNat) with
    | .bad r => (Fm.zero, (badAt l r : Nat), 230)
    | .ok f r => if f.check ≠ 0 then (Fm.zero, from', f.check) else (f, (l.length - r.length : Nat), 0)
def ReadSays (r : Fm × Int × Int) (w : World) (e : Ending) (w' : World) : Prop :=
  (∃ v, e = .returned (.tuple #[v, .int .i64 r.2.1, .int .i64 r.2.2]) ∧ isFm' (fun g => w.heap.size ≤ g) w' v r.1) ∧ Ext w w'
theorem fm_zero {P : Nat → Prop} {w : World} : IsFm P w (.int .i64 0) (.slice none 0 0) (.slice none 0 0) (.slice none 0 0) Fm.zero :=
  IsFm.mk' (v := []) (t := []) (l := []) (by decide) (by decide) (Nat.le_refl _) (Nat.le_refl _) (Nat.le_refl _) strs_nil exs_nil fms_nil
theorem check_range (f : Fm) : f.check = 0 ∨ f.check = 2 ∨ f.check = 3 := by
  unfold Fm.check
  split
  · exact .inr (.inr rfl)
  · split
    · exact .inl rfl
    · exact .inr (.inl rfl)
theorem ReadSays.mk {r : Fm × Int × Int} {w w' : World} {v : Value} {e : Ending} (h1 : e = .returned (.tuple #[v, .int .i64 r.2.1, .int .i64 r.2.2])) (h2 : isFm' (fun g => w.heap.size ≤ g) w' v r.1) (h3 : Ext w w') : ReadSays r w e w' := ⟨⟨v, h1, h2⟩, h3⟩
theorem drop_suf {l : List Tok} {n : Nat} : l.drop n <:+ l := List.drop_suffix n l
end Go.Proofs.Ytnclgkdpafhogaa
namespace Go.Proofs.Ytnclgkdpafhogaa
open Go.ChangeShapes Go.WideShapes Go.ChangeAt Go.RowKit
/-- a formula's text, or the error -/
def textS (f : Fm) : ByteArray × Int := if f.check ≠ 0 then (⟨#[]⟩, f.check) else (⟨f.text.toArray⟩, 0)
theorem check_may {f : Fm} (h : f.check = 0) : f.may = true := by
  unfold Fm.check at h
  split at h
  · cases h
  · split at h
    · assumption
    · cases h
end Go.Proofs.Ytnclgkdpafhogaa
namespace Go.Proofs.Ytnclgkdpafhogaa
open Go.ChangeShapes Go.WideShapes Go.ChangeAt Go.RowKit
theorem own_strs {B : Nat} {w : World} {v : Value} {l : List ByteArray} (hl : ∀ s ∈ l, s.size ≤ 1073741824) (h : w.ownsRow B 9 1 v l.length (l.map Value.string)) : GRow (eltDat 1) 9 B w v (l.map strDat) := by
  refine ⟨l.map fun s => [.string s], by simp, ?_, fun j h1 h2 => ?_⟩
  · have e : (l.map fun s => [Value.string s]).flatten = l.map Value.string := by
      clear h hl
      induction l with
      | nil => rfl
      | cons a l ih => simp only [List.map_cons, List.flatten_cons, ih, List.cons_append, List.nil_append]
    rw [e, List.length_map]; exact h
  · simp only [List.getElem_map]
    exact str_el (hl _ (List.getElem_mem _))
theorem cloneStrs_any {P : Nat → Prop} {l : List ByteArray} {w : World} {a : Option Addr} {c : Nat} (h : IsStrs P w a l) (hl : l.length ≤ 1073741824) :
    Calls Try.prog 66 #[.slice a l.length c] w fun e w' => (∃ v, e = .returned v ∧ GRow (eltDat 1) 9 w.heap.size w' v (l.map strDat)) ∧ Ext w w' := by
  have hsz : ∀ s ∈ l, s.size ≤ 1073741824 := fun s hs => by
    obtain ⟨i, hi, rfl⟩ := List.getElem_of_mem hs
    obtain ⟨_, _, _, _, _, hz⟩ := h.look hi
    exact hz
  by_cases h0 : 0 < l.length
  · obtain ⟨b, o, rfl, -⟩ := Dat.Rows.addr h (by simpa using h0)
    have hK := Try.slices_Clone_string b o l.length c l w (Nat.le_refl _) (by omega) (fun j hj => by
      obtain ⟨b', o', e, -, h1, -⟩ := h.look hj
      injection e with e; injection e with e1 e2 _; subst e1; subst e2
      rw [h1, List.getD_eq_getElem?_getD, List.getElem?_eq_getElem hj]; rfl)
    refine hK.mono ?_
    rintro e w' ⟨v, rfl, ho, -, hx⟩
    rw [List.take_length] at ho
    exact ⟨⟨v, rfl, own_strs hsz ho⟩, hx⟩
  · have he := List.eq_nil_of_length_eq_zero (Nat.eq_zero_of_not_pos h0)
    subst he
    cases a with
    | none =>
      refine (Try.slices_Clone_string_nil 0 c w).mono ?_
      rintro e w' ⟨rfl, rfl⟩
      exact ⟨⟨_, rfl, GRow.nil⟩, Below.refl _ _⟩
    | some a =>
      refine (Try.slices_Clone_string_zero a c w).mono ?_
      rintro e w' ⟨v, rfl, ho, -, hx⟩
      exact ⟨⟨v, rfl, own_strs hsz ho⟩, hx⟩
theorem strs_own {B : Nat} {w : World} {v : Value} {l : List ByteArray} (h : GRow (eltDat 1) 9 B w v (l.map strDat)) : ∃ a c, v = .slice a l.length c ∧ l.length ≤ c ∧ IsStrs (fun g => B ≤ g ∧ g < w.heap.size) w a l := by
  obtain ⟨a, c, hv, hc, hd⟩ := GRow.dat (by decide) h
  rw [List.length_map] at hv hc
  exact ⟨a, c, hv, hc, Dat.Rows.mono hd fun g hg hlt => ⟨hg, hlt⟩⟩
set_option maxHeartbeats 16000000 in
set_option maxRecDepth 100000 in
theorem copyFm_any (t : Fm) : ∀ (P : Nat → Prop) (w : World) (x y z u : Value), IsFm P w x y z u t → t.size ≤ 4194304 →
    Calls Try.prog 42 #[.agg #[x, y, z, u]] w fun e w' => (∃ v, e = .returned v ∧ isFm' (fun g => w.heap.size ≤ g) w' v t) ∧ Ext w w' := by
  induction t using Fm.ind with
  | h op vs ts l ih =>
    intro P w x y z u ht hs
    obtain ⟨va, vc, ta, tc, a, c, rfl, rfl, rfl, rfl, ho1, ho2, hvc, htc, hc1, hkv, hkt, hk⟩ := ht.form
    have ho2' := ho2
    simp only [Fm.op, Fm.vars, Fm.terms, Fm.args] at ho1 ho2' ho2 hvc htc hc1 hkv hkt hk ⊢
    simp only [Fm.size] at hs
    have hkl := Fm.length_le_sizes l
    have htl := Ex.length_le_sizes ts
    obtain ⟨i0, hi0, hz0, hz1', hz2'⟩ := info_parts infoEx
    obtain ⟨j0, hj0, jz0, jz1', jz2'⟩ := info_parts infoFm
    have HIH := Lib.hid ih
    clear ih ht
    have HCL := Lib.hid (fun w' (hx : Ext w w') => cloneStrs_any (c := vc) (hkv.ext hx) (by omega))
    clear hkv
    go_enter Try.func42, Try.ntmps42
    go_upto_region 1 with fail
    obtain ⟨W, hW⟩ : ∃ W, W = (w.alloc (.cells #[.int .i64 op, .slice va vs.length vc, .slice ta ts.length tc, .slice a l.length c] 27)).alloc (.cells #[.int .i64 0, .slice none 0 0, .slice none 0 0, .slice none 0 0] 27) := ⟨_, rfl⟩
    have hx : Ext w W := by rw [hW]; exact (ext_alloc _ _).alloc _
    have hz : W.heap.size = w.heap.size + 2 := by rw [hW]; simp
    have hfb : Own W w.heap.size [.int .i64 op, .slice va vs.length vc, .slice ta ts.length tc, .slice a l.length c] := by rw [hW]; exact (own4 w _ _ _ _ _).ext (ext_alloc _ _)
    have hnb : Own W (w.heap.size + 1) [.int .i64 0, .slice none 0 0, .slice none 0 0, .slice none 0 0] := by
      rw [hW]
      have := own4 (w.alloc (.cells #[.int .i64 op, .slice va vs.length vc, .slice ta ts.length tc, .slice a l.length c] 27)) (.int .i64 0) (.slice none 0 0) (.slice none 0 0) (.slice none 0 0) 27
      rw [World.size_alloc] at this; exact this
    rw [← hW]
    clear hW
    obtain ⟨fb, hfbe⟩ : ∃ fb, fb = w.heap.size := ⟨_, rfl⟩
    obtain ⟨nb, hnbe⟩ : ∃ nb, nb = w.heap.size + 1 := ⟨_, rfl⟩
    rw [← hnbe] at hnb
    rw [← hfbe] at hfb
    rw [← hnbe, ← hfbe]
    have hw0 : w.heap.size ≤ fb := by omega
    have hw1 : w.heap.size ≤ nb := by omega
    have hw2 : fb < nb := by omega
    have hw3 : nb < W.heap.size := by omega
    clear hnbe hfbe hz
    obtain ⟨⟨b0, -⟩, ⟨b1, -⟩, ⟨b2, -⟩, ⟨b3, -⟩⟩ := hfb.cells4
    have hfl := hfb.lt
    go_cut [3] from 8 to 13 (fun xx wx => ∃ (ob : Nat) (va' : Option Addr) (vc' : Nat), xx = .pointer (some ⟨ob, 0, none⟩) ∧ Own wx ob [.int .i64 op, .slice va' vs.length vc', .slice none 0 0, .slice none 0 0] ∧ vs.length ≤ vc' ∧ W.heap.size ≤ ob ∧ IsStrs (fun g => W.heap.size ≤ g ∧ g ≠ ob ∧ g < wx.heap.size) wx va' vs ∧ Ext W wx)
    case first =>
      go_region_law ((go_simp; go_at_call 66; refine (HCL.out _ (by first | exact Ext.drew hx | exact (Ext.drew hx).alloc _ | exact Ext.drew (hx.alloc _))).mono ?_; rintro e w1 ⟨⟨v, rfl, hv⟩, hx1⟩; (obtain ⟨va', vc', rfl, hvc', hvs'⟩ := strs_own hv); (have hE : Ext W w1 := (by first | exact Ext.trans (Ext.drew (Below.refl _ _)) hx1 | exact Ext.trans (Ext.drew (ext_alloc _ _)) hx1)); (have e0 := hE.cell b0); (have hl1 : fb < w1.heap.size := cell_lt e0); (have e1 := hE.cell b1); (try (have hb := ((own4 W (.int .i64 0) (.slice none 0 0) (.slice none 0 0) (.slice none 0 0) 27).ext (Ext.trans (Ext.drew (Below.refl _ _)) hx1)); have hbl := hb.lt; (obtain ⟨y0, z0⟩ := hb 0 _ rfl); (obtain ⟨y1, z1⟩ := hb 1 _ rfl); (obtain ⟨y2, z2⟩ := hb 2 _ rfl); (obtain ⟨y3, z3⟩ := hb 3 _ rfl)))))
      all_goals
        go_wp2_with fail
        go_meet
        first
          | (have hb' := hb
             have hch := chg_set4 w1 W.heap.size (.int .i64 op) (.slice va' vs.length vc') (.slice none 0 0) (.slice none 0 0)
             have hch' := hch.size
             exact ⟨W.heap.size, va', vc', rfl, own_set4 hb _ _ _ _, hvc', Nat.le_refl _, Dat.Rows.mono (Dat.Rows.chg hvs' hch (fun g hg => by have h1 := hg.1; simp at h1 ⊢; omega)) (fun g hg _ => by have h1 := hg.1; simp at h1; omega), Chg.ext hE hch (by simp)⟩)
          | exact ⟨w1.heap.size, va', vc', rfl, own4 w1 _ _ _ _ _, hvc', hE.size, Dat.Rows.ext (Dat.Rows.mono hvs' fun g hg _ => ⟨by have h1 : W.heap.size ≤ g := hg.1; omega, by omega, by simp; omega⟩) (ext_alloc _ _), hE.alloc _⟩
    case rest =>
      generalize wc = W0 at hcut ⊢
      obtain ⟨ob, va', vc', rfl, ho, hvc', hobW, hvs', hxW⟩ := hcut
      have hx0 := hx.trans hxW
      have hf0 := hfb.ext hxW
      have hn0 := hnb.ext hxW
      have hob0 := ho.lt
      have hobn : ob ≠ nb := by omega
      have hobf : ob ≠ fb := by omega
      have hwob : w.heap.size ≤ ob := by omega
      have hnbl := hn0.lt
      have hfbl := hf0.lt
      have hwW := hx.size
      clear hfb hnb b0 b1 b2 b3 hfl HCL hx
      obtain ⟨-, -, ⟨b2, -⟩, ⟨b3, -⟩⟩ := hf0.cells4
      go_wp2_with fail
      go_loopw [17] (fun i wr => ∃ (k : Nat) (vv : Value), k ≤ ts.length ∧ i = .int .i64 k ∧ GRow (eltDat 3) 67 W0.heap.size wr vv ((ts.take k).map Ex.dat) ∧ Own wr ob [.int .i64 op, .slice va' vs.length vc', vv, .slice none 0 0] ∧ Chg [ob] W0 wr) (fun i _ => ts.length - (intOf i).toNat)
      case atStart => exact ⟨0, _, Nat.zero_le _, rfl, GRow.nil, ho, Chg.refl _ _⟩
      case round =>
        obtain ⟨k, vv, hkk, rfl, hrow, ho2, hch⟩ := hrel
        have hxr : Ext w wr := Chg.ext hx0 hch (by simp; omega)
        have HML : ((ts.take k).map Ex.dat).length = k := by rw [List.length_map, List.length_take]; omega
        obtain ⟨xa, xc, hv, hxc⟩ := hrow.form
        rw [HML] at hv hxc
        subst hv
        have Hml := Lib.hid HML
        clear HML ho b2 b3
        obtain ⟨q2, r2⟩ := ho2 2 _ rfl
        have hWr : W0.heap.size ≤ wr.heap.size := hch.size
        by_cases hlt : k < ts.length
        · have hk1 : (k : Int) < ts.length := by omega
          obtain ⟨b', o', a', c', rfl, hbP, g1, g2, g3, hi⟩ := (IsExs.ext hkt hxr).look hlt
          have Hi := Lib.hid (fun w' (hx : Ext wr w') => copyExpr_any ts[k] P w' _ _ _ (hi.ext hx) (by have := Ex.size_le_sizes hlt; omega))
          have hown : ∀ g, (Value.slice xa k xc).ownBlock = some g → g < wr.heap.size := fun g hg => (hrow.own_ge hg).2
          have hown2 : ∀ g, (Value.slice xa k xc).ownBlock = some g → W0.heap.size ≤ g := fun g hg => (hrow.own_ge hg).1
          go_upto_region 5 with fail
          obtain ⟨V, hV⟩ : ∃ V, V = wr.alloc (.cells #[.bool ts[k].var, .string ts[k].name, .slice a' ts[k].args.length c'] 67) := ⟨_, rfl⟩
          have hxV : Ext wr V := by rw [hV]; exact ext_alloc _ _
          have hbx : Own V wr.heap.size [.bool ts[k].var, .string ts[k].name, .slice a' ts[k].args.length c'] := by rw [hV]; exact own3 wr _ _ _ _
          obtain ⟨e0, -⟩ := hbx 0 _ rfl
          obtain ⟨e1, -⟩ := hbx 1 _ rfl
          obtain ⟨e2, -⟩ := hbx 2 _ rfl
          have p2 := hxV.cell q2
          have y2 := hxV.frozen q2 r2
          rw [← hV]
          clear hV hi g1 g2 g3
          go_region_law ((first
            | (go_simp; go_at_call 67; refine (Hi.out _ (hxV.trans (Ext.drew (Below.refl _ _)))).mono ?_; rintro e w2 ⟨⟨vv2, rfl, x0, x1, x2, rfl, hex⟩, hx2⟩; (have hx2' : Ext V w2 := (Ext.drew (Below.refl _ V)).trans hx2); (obtain ⟨d1, e1', rfl, rfl, rfl, -⟩ := hex.form); (have d5 := hx2'.cell p2); (have d6 := hx2'.frozen p2 y2); (have d7 := (ext_alloc w2 (.cells #[.bool ts[k].var, .string ts[k].name, .slice d1 ts[k].args.length e1'] 67)).cell d5); (try simp only []))
            | (refine step_append_row rfl (.tmp 22) (.tmp 25) _ rfl 67 i0 _ 48 Try.underlying24 hi0 hz0 hz1' hz2' rfl (by decide) W0.heap.size (.slice xa k xc) ((ts.take k).map Ex.dat) (by rfl) wr hrow ((hxV.trans hx2').trans (ext_alloc _ _)) w2.heap.size (by rfl) _ _ (heap_alloc_new _ _) ts[k].dat (ex_el (hex.ext (ext_alloc _ _)) fun g hg hlt => (show W0.heap.size ≤ g ∧ (Value.slice xa k xc).ownBlock ≠ some g from ⟨by have : V.heap.size ≤ g := hg; have := hxV.size; omega, fun e => by have := hown g e; have : V.heap.size ≤ g := hg; have := hxV.size; omega⟩)) (by rw [Hml.out]; simp only [maxLen]; omega) (by rw [Hml.out]; omega) (Nat.le_trans hWr ((hxV.trans hx2').trans (ext_alloc _ _)).size) ?_; intro g cap w4 hrow4 hgrow hat hlt4; (have hfar : (some (⟨ob, 2, none⟩ : Addr).block) ≠ (Value.slice xa k xc).ownBlock := fun e => by have := hown2 _ e.symm; simp only at this; omega); (have hlt5 : (⟨ob, 2, none⟩ : Addr).block < (w2.alloc (.cells #[.bool ts[k].var, .string ts[k].name, .slice d1 ts[k].args.length e1'] 67)).heap.size := Nat.lt_of_lt_of_le (cell_lt d5) (ext_alloc w2 _).size); (have e5 := (hgrow.cell_far ⟨ob, 2, none⟩ hlt5 hfar).trans ((ext_alloc w2 _).cell d5)); (have e6 := (hgrow.frozen_far ⟨ob, 2, none⟩ hlt5 hfar).trans ((ext_alloc w2 _).frozen d5 d6)))))
          all_goals
            go_wp2_with fail
            go_roundw
            case rel =>
              have hx5 := (hxV.trans hx2').trans (ext_alloc w2 (.cells #[.bool ts[k].var, .string ts[k].name, .slice d1 ts[k].args.length e1'] 67))
              have hset := (Chg.refl [ob] w4).setCell (p := ⟨ob, 2, none⟩) (.slice (some ⟨g, 0, none⟩) (k + 1) cap) (.inl (by simp))
              have hnot : ∀ b, b < W0.heap.size → (Value.slice xa k xc).ownBlock ≠ some b := fun b hb e => by have := hown2 _ e; omega
              have hrow5 := hrow4
              rw [Hml.out] at hrow5
              refine ⟨k + 1, .slice (some ⟨g, 0, none⟩) (k + 1) cap, by omega, by go_num, ?_, ?_, (chg_append hch hrow (Nat.le_refl _) hx5 hgrow).trans (by simpa [Hml.out] using hset)⟩
              · rw [List.take_succ_eq_append_getElem hlt, List.map_append]
                exact hrow5.chg hset (by simp; omega)
              · exact (own_append (ho2.ext hx5) hgrow (hnot ob hob0)).set (i := 2) (by simp) (.slice (some ⟨g, 0, none⟩) (k + 1) cap)
            case measure => simp [intOf]; omega
        · have hk1 : ¬ (k : Int) < ts.length := by omega
          have hke : k = ts.length := by omega
          obtain ⟨a1, c1, hv1, hvc1, hd⟩ := GRow.dat (by decide) hrow
          rw [Hml.out] at hv1 hvc1
          injection hv1 with e1 _ e3
          subst e1; subst e3
          have hke' := hke
          subst hke
          rw [List.take_length] at hd
          have hts : IsExs (fun g => W0.heap.size ≤ g ∧ g < wr.heap.size) wr xa ts := by unfold IsExs; rw [Ex.dats_map]; exact Dat.Rows.mono hd fun g hg hlt => ⟨hg, hlt⟩
          have hvs1 : IsStrs (fun g => W.heap.size ≤ g ∧ g ≠ ob ∧ g < W0.heap.size) wr va' vs := Dat.Rows.chg hvs' hch (fun g hg => by simpa using hg.2.1)
          have hn1 := hn0.chg hch (by simpa using Ne.symm hobn)
          have hf1 := hf0.chg hch (by simpa using Ne.symm hobf)
          clear hd hrow hke' Hml hk1 hlt q2 r2 hvs' hn0 hf0
          obtain ⟨-, -, -, ⟨b3, -⟩⟩ := hf1.cells4
          have hob1 := ho2.lt
          obtain ⟨V1, hV1⟩ : ∃ V1, V1 = wr := ⟨_, rfl⟩
          rw [← hV1] at ho2 hch hxr hWr hts hvs1 hn1 hf1 b3 hob1 ⊢
          clear hV1
          go_wp2_with fail
          go_loopw [32] (fun i wr => ∃ (k : Nat) (vv : Value), k ≤ l.length ∧ i = .int .i64 k ∧ GRow (eltDat 4) 27 V1.heap.size wr vv ((l.take k).map Fm.dat) ∧ Own wr ob [.int .i64 op, .slice va' vs.length vc', .slice xa ts.length xc, vv] ∧ Chg [ob] V1 wr) (fun i _ => l.length - (intOf i).toNat)
          case atStart => exact ⟨0, _, Nat.zero_le _, rfl, GRow.nil, ho2, Chg.refl _ _⟩
          case round =>
            obtain ⟨k, vv, hkk, rfl, hrow, ho3, hch3⟩ := hrel
            have hxr3 : Ext w wr := Chg.ext hxr hch3 (by simp; omega)
            have HML : ((l.take k).map Fm.dat).length = k := by rw [List.length_map, List.length_take]; omega
            obtain ⟨za, zc, hv, hzc⟩ := hrow.form
            rw [HML] at hv hzc
            subst hv
            have Hml := Lib.hid HML
            clear HML ho2 b3
            obtain ⟨q2, r2⟩ := ho3 3 _ rfl
            have hWr3 : V1.heap.size ≤ wr.heap.size := hch3.size
            by_cases hlt : k < l.length
            · have hk1 : (k : Int) < l.length := by omega
              obtain ⟨b', o', a1', c1', a2', c2', a', c', rfl, hbP, g1, g2, g3, g4, hi⟩ := (IsFms.ext hk hxr3).look hlt
              have Hi := Lib.hid (fun w' (hx : Ext wr w') => HIH.out _ (List.getElem_mem hlt) P w' _ _ _ _ (hi.ext hx) (by have := Fm.size_le_sizes hlt; omega))
              have hown : ∀ g, (Value.slice za k zc).ownBlock = some g → g < wr.heap.size := fun g hg => (hrow.own_ge hg).2
              have hown2 : ∀ g, (Value.slice za k zc).ownBlock = some g → V1.heap.size ≤ g := fun g hg => (hrow.own_ge hg).1
              go_upto_region 10 with fail
              obtain ⟨V, hV⟩ : ∃ V, V = wr.alloc (.cells #[.int .i64 l[k].op, .slice a1' l[k].vars.length c1', .slice a2' l[k].terms.length c2', .slice a' l[k].args.length c'] 27) := ⟨_, rfl⟩
              have hxV : Ext wr V := by rw [hV]; exact ext_alloc _ _
              have hbx : Own V wr.heap.size [.int .i64 l[k].op, .slice a1' l[k].vars.length c1', .slice a2' l[k].terms.length c2', .slice a' l[k].args.length c'] := by rw [hV]; exact own4 wr _ _ _ _ _
              obtain ⟨⟨e0, -⟩, ⟨e1, -⟩, ⟨e2, -⟩, ⟨e3, -⟩⟩ := hbx.cells4
              have p2 := hxV.cell q2
              have y2 := hxV.frozen q2 r2
              rw [← hV]
              clear hV hi g1 g2 g3 g4
              go_region_law ((first
                | (go_simp; go_at_call 42; refine (Hi.out _ (hxV.trans (Ext.drew (Below.refl _ _)))).mono ?_; rintro e w2 ⟨⟨vv2, rfl, x0, x1, x2, x3, rfl, hex⟩, hx2⟩; (have hx2' : Ext V w2 := (Ext.drew (Below.refl _ V)).trans hx2); (obtain ⟨d1, e1', d2, e2', d3, e3', rfl, rfl, rfl, rfl, -⟩ := hex.form); (have d5 := hx2'.cell p2); (have d6 := hx2'.frozen p2 y2); (have d7 := (ext_alloc w2 (.cells #[.int .i64 l[k].op, .slice d1 l[k].vars.length e1', .slice d2 l[k].terms.length e2', .slice d3 l[k].args.length e3'] 27)).cell d5); (try simp only []))
                | (refine step_append_row rfl (.tmp 37) (.tmp 40) _ rfl 27 j0 _ 80 Try.underlying25 hj0 jz0 jz1' jz2' rfl (by decide) V1.heap.size (.slice za k zc) ((l.take k).map Fm.dat) (by rfl) wr hrow ((hxV.trans hx2').trans (ext_alloc _ _)) w2.heap.size (by rfl) _ _ (heap_alloc_new _ _) l[k].dat (fm_el (hex.ext (ext_alloc _ _)) fun g hg hlt => (show V1.heap.size ≤ g ∧ (Value.slice za k zc).ownBlock ≠ some g from ⟨by have : V.heap.size ≤ g := hg; have := hxV.size; omega, fun e => by have := hown g e; have : V.heap.size ≤ g := hg; have := hxV.size; omega⟩)) (by rw [Hml.out]; simp only [maxLen]; omega) (by rw [Hml.out]; omega) (Nat.le_trans hWr3 ((hxV.trans hx2').trans (ext_alloc _ _)).size) ?_; intro g cap w4 hrow4 hgrow hat hlt4; (have hfar : (some (⟨ob, 3, none⟩ : Addr).block) ≠ (Value.slice za k zc).ownBlock := fun e => by have := hown2 _ e.symm; simp only at this; omega); (have hlt5 : (⟨ob, 3, none⟩ : Addr).block < (w2.alloc (.cells #[.int .i64 l[k].op, .slice d1 l[k].vars.length e1', .slice d2 l[k].terms.length e2', .slice d3 l[k].args.length e3'] 27)).heap.size := Nat.lt_of_lt_of_le (cell_lt d5) (ext_alloc w2 _).size); (have e5 := (hgrow.cell_far ⟨ob, 3, none⟩ hlt5 hfar).trans ((ext_alloc w2 _).cell d5)); (have e6 := (hgrow.frozen_far ⟨ob, 3, none⟩ hlt5 hfar).trans ((ext_alloc w2 _).frozen d5 d6)))))
              all_goals
                go_wp2_with fail
                go_roundw
                case rel =>
                  have hx5 := (hxV.trans hx2').trans (ext_alloc w2 (.cells #[.int .i64 l[k].op, .slice d1 l[k].vars.length e1', .slice d2 l[k].terms.length e2', .slice d3 l[k].args.length e3'] 27))
                  have hset := (Chg.refl [ob] w4).setCell (p := ⟨ob, 3, none⟩) (.slice (some ⟨g, 0, none⟩) (k + 1) cap) (.inl (by simp))
                  have hnot : ∀ b, b < V1.heap.size → (Value.slice za k zc).ownBlock ≠ some b := fun b hb e => by have := hown2 _ e; omega
                  have hrow5 := hrow4
                  rw [Hml.out] at hrow5
                  refine ⟨k + 1, .slice (some ⟨g, 0, none⟩) (k + 1) cap, by omega, by go_num, ?_, ?_, (chg_append hch3 hrow (Nat.le_refl _) hx5 hgrow).trans (by simpa [Hml.out] using hset)⟩
                  · rw [List.take_succ_eq_append_getElem hlt, List.map_append]
                    exact hrow5.chg hset (by simp; omega)
                  · exact (own_append (ho3.ext hx5) hgrow (hnot ob hob1)).set (i := 3) (by simp) (.slice (some ⟨g, 0, none⟩) (k + 1) cap)
                case measure => simp [intOf]; omega
            · have hk1 : ¬ (k : Int) < l.length := by omega
              have hke : k = l.length := by omega
              obtain ⟨a1, c1, hv1, hvc1, hd⟩ := GRow.dat (by decide) hrow
              rw [Hml.out] at hv1 hvc1
              injection hv1 with e1 _ e3
              subst e1; subst e3
              subst hke
              rw [List.take_length] at hd
              have hn3 := hn1.chg hch3 (by simpa using Ne.symm hobn)
              have hts3 : IsExs (fun g => W0.heap.size ≤ g ∧ g < V1.heap.size) wr xa ts := Dat.Rows.chg hts hch3 (fun g hg => by simp; omega)
              have hvs3 : IsStrs (fun g => W.heap.size ≤ g ∧ g ≠ ob ∧ g < W0.heap.size) wr va' vs := Dat.Rows.chg hvs1 hch3 (fun g hg => by simpa using hg.2.1)
              clear hrow Hml hk1 hlt q2 r2 hn1 hts hvs1 hf1
              obtain ⟨⟨m0, -⟩, ⟨m1, -⟩, ⟨m2, -⟩, ⟨m3, -⟩⟩ := ho3.cells4
              obtain ⟨⟨n0, s0⟩, ⟨n1, s1⟩, ⟨n2, s2⟩, ⟨n3, s3⟩⟩ := hn3.cells4
              have hnl3 := hn3.lt
              have HD := Lib.hid (And.intro hd (And.intro hts3 hvs3))
              clear hd hts3 hvs3
              go_wp2_with fail
              obtain ⟨W2, hW2⟩ : ∃ W2, W2 = (((wr.setCell ⟨nb, 0, none⟩ (.int .i64 op)).setCell ⟨nb, 1, none⟩ (.slice va' vs.length vc')).setCell ⟨nb, 2, none⟩ (.slice xa ts.length xc)).setCell ⟨nb, 3, none⟩ (.slice za l.length zc) := ⟨_, rfl⟩
              have hch4 := chg_set4 wr nb (.int .i64 op) (.slice va' vs.length vc') (.slice xa ts.length xc) (.slice za l.length zc)
              have hn4 := own_set4 hn3 (.int .i64 op) (.slice va' vs.length vc') (.slice xa ts.length xc) (.slice za l.length zc)
              rw [← hW2] at hch4 hn4 ⊢
              clear hW2
              obtain ⟨f0, f1, f2, f3⟩ := own_res4 hn4
              have hxf := Chg.ext hxr3 hch4 (by simp; omega)
              obtain ⟨hd, hts3, hvs3⟩ := HD.out
              have hWW := hxW.size
              have hd4 : IsFms (fun g => w.heap.size ≤ g) W2 za l := by unfold IsFms; rw [Fm.dats_map]; exact Dat.Rows.mono (Dat.Rows.chg hd hch4 (fun g hg => by simp; omega)) fun g hg _ => by have := hxr.size; omega
              have ht4 : IsExs (fun g => w.heap.size ≤ g) W2 xa ts := Dat.Rows.mono (Dat.Rows.chg hts3 hch4 (fun g hg => by simp; omega)) fun g hg _ => by have := hx0.size; omega
              have hv4 : IsStrs (fun g => w.heap.size ≤ g) W2 va' vs := Dat.Rows.mono (Dat.Rows.chg hvs3 hch4 (fun g hg => by simp; omega)) fun g hg _ => by omega
              refine bodyPost_ret (v := .agg #[.int .i64 op, .slice va' vs.length vc', .slice xa ts.length xc, .slice za l.length zc]) (by simp [results, Try.results42, go_sem, f0, f1, f2, f3]) rfl ⟨⟨_, rfl, _, _, _, _, rfl, IsFm.mk' ho1 ho2' hvc' hxc hzc hv4 ht4 hd4⟩, hxf⟩
end Go.Proofs.Ytnclgkdpafhogaa
namespace Go.Proofs.Ytnclgkdpafhogaa
open Go.ChangeShapes Go.WideShapes Go.ChangeAt Go.RowKit
def tokOf (l : List Tok) (i : Int) : Tok := (l[i.toNat]?).getD ⟨7, ⟨#[]⟩, 0⟩
theorem tokOf_lt {l : List Tok} {i : Int} (h0 : 0 ≤ i) (h : i < l.length) : tokOf l i = l[i.toNat]'(by omega) := by
  unfold tokOf; rw [List.getElem?_eq_getElem (by omega)]; rfl
/-- from what is cut: the formula, the place of a fault, the error -/
def parseC (ct : List Tok × Nat × Int) : Fm × Int × Int :=
  if ct.2.2 ≠ 0 then (Fm.zero, (ct.2.1 : Nat), ct.2.2)
  else if (readS ct.1 0).2.2 ≠ 0 then (Fm.zero, (tokOf ct.1 (readS ct.1 0).2.1).at', (readS ct.1 0).2.2)
  else if (tokOf ct.1 (readS ct.1 0).2.1).kind ≠ 7 then (Fm.zero, (tokOf ct.1 (readS ct.1 0).2.1).at', 230)
  else ((readS ct.1 0).1, 0, 0)
/-- a text read as a formula -/
def parseS (s : ByteArray) : Fm × Int × Int := parseC (cutS s)
theorem cutS_ends {s : ByteArray} (h : (cutS s).2.2 = 0) : Ends (cutS s).1 := by
  unfold cutS at h ⊢
  split at h
  · cases h
  · rename_i hl
    rw [if_neg hl]
    unfold cutAll at h ⊢
    split at h
    · rename_i h0; rw [if_pos h0]; exact cutFrom_ends (Nat.zero_le _) h0
    · rename_i h0; exact absurd h h0
theorem cutS_len (s : ByteArray) : (cutS s).1.length ≤ 8001 := by
  unfold cutS
  split
  · simp
  · rename_i hl
    unfold cutAll
    split
    · have := cutFrom_len (s := s) (Nat.zero_le _); simp only; omega
    · simp
theorem Ends.pos {l : List Tok} (h : Ends l) : 0 < l.length := by obtain ⟨p, t, rfl, -⟩ := h; simp
theorem readS_range {l : List Tok} (h : Ends l) : 0 ≤ (readS l 0).2.1 ∧ (readS l 0).2.1 < l.length ∧ ((readS l 0).2.2 = 0 ∨ (readS l 0).2.2 = 2 ∨ (readS l 0).2.2 = 3 ∨ (readS l 0).2.2 = 230) := by
  have hp := h.pos
  unfold readS
  rw [if_neg (by omega)]
  simp only [Int.toNat_zero, List.drop_zero]
  cases hr : rForm l with
  | bad r => simp only; refine ⟨by omega, ?_, by simp⟩; have : badAt l r ≤ l.length - 1 := Nat.min_le_right _ _; omega
  | ok f r =>
    have he := rForm_pres _ _ _ h hr
    have hr1 := he.pos
    have hs := rForm_lt hr
    simp only
    split
    · refine ⟨by simp, by simp; omega, ?_⟩
      rcases check_range f with h | h | h <;> simp [h]
    · simp only; exact ⟨by omega, by omega, .inl trivial⟩
end Go.Proofs.Ytnclgkdpafhogaa
namespace Go.Proofs.Ytnclgkdpafhogaa
theorem parse_long {s : ByteArray} (h : 8000 < s.size) : parseS s = (Fm.zero, 0, 3) := by
  unfold parseS cutS
  rw [if_pos h]
  rfl
theorem parse_written {f : Fm} (h : f.check = 0) {s : ByteArray} (hs : s.data.toList = f.text) (hl : ¬ 8000 < s.size) : parseS s = (f, 0, 0) := by
  have hm : f.may = true := by
    unfold Fm.check at h
    split at h
    · cases h
    · split at h
      · assumption
      · cases h
  obtain ⟨h1, t, h2, -⟩ := read_written hm hs
  have he := cutFrom_ends (s := s) (Nat.zero_le _) h1
  have hc : cutS s = ((cutFrom s 0).1, 0, 0) := by
    unfold cutS cutAll
    rw [if_neg hl, if_pos h1]
  unfold parseS
  rw [hc]
  generalize (cutFrom s 0).1 = l at *
  have hp := he.pos
  have hr : readS l 0 = (f, ((l.length - 1 : Nat) : Int), 0) := by
    unfold readS
    rw [if_neg (by omega)]
    simp only [Int.toNat_zero, List.drop_zero, h2, h, ne_eq, not_true_eq_false, if_false, List.length_cons, List.length_nil, Nat.zero_add]
  obtain ⟨p, e, rfl, h7⟩ := he
  have ht : (tokOf (p ++ [e]) ((((p ++ [e]).length - 1 : Nat)) : Int)).kind = 7 := by
    rw [tokOf_lt (by omega) (by simp only [List.length_append, List.length_cons, List.length_nil]; omega)]
    simpa using h7
  unfold parseC
  rw [hr]
  simp only [ne_eq, not_true_eq_false, if_false, ht]
theorem parsed_check {s : ByteArray} (h : (parseS s).2.2 = 0) : (parseS s).1.check = 0 := by
  unfold parseS parseC at h ⊢
  split at h
  · rename_i h1; exact absurd h h1
  · rename_i h1
    split at h
    · rename_i h2; exact absurd h h2
    · rename_i h2
      split at h
      · cases h
      · rename_i h3
        rw [if_neg h1, if_neg h2, if_neg h3]
        have h4 := Decidable.not_not.1 h2
        clear h2 h3 h h1
        unfold readS at h4 ⊢
        split at h4
        · cases h4
        · rename_i h5
          rw [if_neg h5]
          split at h4
          · cases h4
          · split at h4
            · rename_i h6; exact absurd h4 h6
            · rename_i h6
              rw [if_neg h6]
              exact Decidable.not_not.1 h6
end Go.Proofs.Ytnclgkdpafhogaa
namespace Go.Proofs.Ytnclgkdpafhogaa
open Go.ChangeShapes Go.WideShapes Go.ChangeAt Go.RowKit
set_option maxHeartbeats 4000000 in
set_option maxRecDepth 100000 in
theorem equalFm_any {l l' : List Fm} {P Q : Nat → Prop} {w : World} (HI : ∀ k (h : k < l.length) (h' : k < l'.length) w' (_ : Ext w w') (x y z u x' y' z' u' : Value), IsFm P w' x y z u l[k] → IsFm Q w' x' y' z' u' l'[k] →
      Calls Try.prog 9 #[.agg #[x, y, z, u], .agg #[x', y', z', u']] w' fun e w'' => e = .returned (.bool (Fm.same l[k] l'[k])) ∧ Ext w' w'')
    {a a' : Option Addr} {c c' : Nat} (hn : l.length ≤ 1073741824) (hn' : l'.length ≤ 1073741824) (h : IsFms P w a l) (h' : IsFms Q w a' l') :
    Calls Try.prog 23 #[.slice a l.length c, .slice a' l'.length c', .func (.func 9) #[] #[]] w fun e w' => e = .returned (.bool (Fm.sames l l')) ∧ Ext w w' := by
  have HH := Lib.hid HI
  clear HI
  by_cases hll : l.length = l'.length
  case neg =>
    have q3 : ((l.length : Int) != (l'.length : Nat)) = true := by rw [bne_iff_ne]; omega
    have HR := Lib.hid (show Fm.sames l l' = false by
      cases hs : Fm.sames l l' with
      | false => rfl
      | true => exact absurd (by rw [(Fm.sames_iff l l').1 hs]) hll)
    clear hll
    go_enter Try.func23, Try.ntmps23
    go_wp2_with fail
    go_ret
    exact ⟨ret_bool (by rw [HR.out]), Below.refl _ _⟩
  have q3 : ((l.length : Int) != (l'.length : Nat)) = false := by rw [bne_eq_false_iff_eq]; omega
  have HLL := Lib.hid hll
  clear hll
  go_enter Try.func23, Try.ntmps23
  go_wp2_with fail
  go_loopw [17] (fun i wr => ∃ k : Nat, k ≤ l.length ∧ i = .int .i64 k ∧ Ext w wr ∧ l.take k = l'.take k) (fun i _ => l.length - (intOf i).toNat)
  case atStart => exact ⟨0, Nat.zero_le _, rfl, Below.refl _ _, rfl⟩
  case round =>
    obtain ⟨k, hkk, rfl, hxr, hm⟩ := hrel
    have HM := Lib.hid hm
    clear hm
    by_cases hlt : k < l.length
    · have hlt2 : k < l'.length := by have := HLL.out; omega
      obtain ⟨b, o, a1, c1, a2, c2, a3, c3, rfl, hb, g1, g2, g3, g4, hi⟩ := (IsFms.ext h hxr).look hlt
      obtain ⟨bb, oo, d1, e1, d2, e2, d3, e3, rfl, hbb, j1, j2, j3, j4, hi'⟩ := (IsFms.ext h' hxr).look hlt2
      have hlt' : (k : Int) < l.length := by omega
      have hlt2' : (k : Int) < l'.length := by omega
      have HE := Lib.hid (fun w' (hx : Ext wr w') => HH.out k hlt hlt2 w' (hxr.trans hx) _ _ _ _ _ _ _ _ (hi.ext hx) (hi'.ext hx))
      have HST := Lib.hid (show l.take (k + 1) = l.take k ++ [l[k]] from List.take_succ_eq_append_getElem hlt)
      have HST' := Lib.hid (show l'.take (k + 1) = l'.take k ++ [l'[k]] from List.take_succ_eq_append_getElem hlt2)
      obtain ⟨V, hV⟩ : ∃ V, V = (wr.alloc (.cells #[.int .i64 l[k].op, .slice a1 l[k].vars.length c1, .slice a2 l[k].terms.length c2, .slice a3 l[k].args.length c3] 27)).alloc (.cells #[.int .i64 l'[k].op, .slice d1 l'[k].vars.length e1, .slice d2 l'[k].terms.length e2, .slice d3 l'[k].args.length e3] 27) := ⟨_, rfl⟩
      have hxV : Ext wr V := by rw [hV]; exact (ext_alloc _ _).alloc _
      have hxA := ext_alloc wr (.cells #[.int .i64 l[k].op, .slice a1 l[k].vars.length c1, .slice a2 l[k].terms.length c2, .slice a3 l[k].args.length c3] 27)
      have i1 := hxA.cell j1; have i2 := hxA.cell j2; have i3 := hxA.cell j3; have i4 := hxA.cell j4
      cases hs : Fm.same l[k] l'[k] with
      | true =>
        rw [hs] at HE
        have HEQ := Lib.hid ((Fm.same_iff _ _).1 hs)
        clear hs
        go_wp2_with (rw [← hV]; clear hV; go_at_call 9; refine (HE.out _ hxV).mono ?_; rintro e w1 ⟨rfl, hx1⟩)
        go_roundw
        case rel => exact ⟨k + 1, by omega, by go_num, hxr.trans (hxV.trans hx1), by rw [HST.out, HST'.out, HM.out, HEQ.out]⟩
        case measure => simp [intOf]; omega
      | false =>
        rw [hs] at HE
        have HR := Lib.hid (show Fm.sames l l' = false by
          cases hs2 : Fm.sames l l' with
          | false => rfl
          | true =>
            have := (Fm.sames_iff l l').1 hs2
            subst this
            rw [(Fm.same_iff _ _).2 rfl] at hs
            cases hs)
        clear hs
        go_wp2_with (rw [← hV]; clear hV; go_at_call 9; refine (HE.out _ hxV).mono ?_; rintro e w1 ⟨rfl, hx1⟩)
        go_ret
        exact ⟨ret_bool (by rw [HR.out]), hxr.trans (hxV.trans hx1)⟩
    · have hlt' : ¬ (k : Int) < l.length := by omega
      have hke : k = l.length := by omega
      have HR := Lib.hid (show Fm.sames l l' = true by
        have h1 := HM.out
        rw [hke, List.take_length, HLL.out, List.take_length] at h1
        exact (Fm.sames_iff _ _).2 h1)
      clear hke
      go_wp2_with fail
      go_ret
      exact ⟨ret_bool (by rw [HR.out]), hxr⟩

theorem drewN_ext (w : World) (q : Nat) : Ext w (w.drewN q) := (Below.refl w.heap.size w).trans ⟨rfl, rfl, rfl, Nat.le_refl _, fun _ _ => rfl⟩
theorem equalStrs_any {l l' : List ByteArray} {P Q : Nat → Prop} {w : World} {a a' : Option Addr} {c c' : Nat} (hn : l.length ≤ 1073741824) (hn' : l'.length ≤ 1073741824) (h : IsStrs P w a l) (h' : IsStrs Q w a' l') :
    Calls Try.prog 20 #[.slice a l.length c, .slice a' l'.length c'] w fun e w' => e = .returned (.bool (decide (l = l'))) ∧ Ext w w' := by
  by_cases h0 : l.length = l'.length
  · by_cases hz : l.length = 0
    · have hl : l = [] := List.eq_nil_of_length_eq_zero hz
      have hl' : l' = [] := List.eq_nil_of_length_eq_zero (by omega)
      subst hl; subst hl'
      refine (Try.slices_Equal_string_empty a a' c 0 c' w (by omega)).mono ?_
      rintro e w' ⟨rfl, rfl⟩
      exact ⟨rfl, Below.refl _ _⟩
    · obtain ⟨b, o, rfl, -⟩ := h.look (i := 0) (by omega)
      obtain ⟨b', o', rfl, -⟩ := h'.look (i := 0) (by omega)
      refine (Try.slices_Equal_string b o l.length c b' o' l'.length c' l l' w (Nat.le_refl _) (Nat.le_refl _) (by omega) (by omega) (fun j hj => ?_) (fun j hj => ?_)).mono ?_
      · obtain ⟨b1, o1, he, -, hc, -⟩ := h.look hj
        injection he with he; injection he with e1 e2 _
        subst e1; subst e2
        rw [List.getD_eq_getElem?_getD, List.getElem?_eq_getElem hj]; exact hc
      · obtain ⟨b1, o1, he, -, hc, -⟩ := h'.look hj
        injection he with he; injection he with e1 e2 _
        subst e1; subst e2
        rw [List.getD_eq_getElem?_getD, List.getElem?_eq_getElem hj]; exact hc
      · rintro e w' ⟨rfl, q, rfl⟩
        rw [List.take_length, List.take_length]
        exact ⟨rfl, drewN_ext w q⟩
  · refine (Try.slices_Equal_string_lens a a' l.length c l'.length c' w h0).mono ?_
    rintro e w' ⟨rfl, rfl⟩
    exact ⟨ret_bool (by rw [decide_eq_false (fun h => h0 (by rw [h]))]), Below.refl _ _⟩
set_option maxHeartbeats 4000000 in
set_option maxRecDepth 100000 in
theorem same_any (f : Fm) : ∀ (g : Fm) (P Q : Nat → Prop) (w : World) (x y z u x' y' z' u' : Value), IsFm P w x y z u f → IsFm Q w x' y' z' u' g → f.size ≤ 4194304 → g.size ≤ 4194304 →
    Calls Try.prog 9 #[.agg #[x, y, z, u], .agg #[x', y', z', u']] w fun e w' => e = .returned (.bool (Fm.same f g)) ∧ Ext w w' := by
  induction f using Fm.ind with
  | h op v t l ih =>
    intro g P Q w x y z u x' y' z' u' hf hg hs hs'
    obtain ⟨op', v', t', l'⟩ := g
    obtain ⟨va, vc, ta, tc, a, c, rfl, rfl, rfl, rfl, -, -, -, -, -, hvs, hts, hls⟩ := hf.form
    obtain ⟨va', vc', ta', tc', a', c', rfl, rfl, rfl, rfl, -, -, -, -, -, hvs', hts', hls'⟩ := hg.form
    simp only [Fm.op, Fm.vars, Fm.terms, Fm.args] at hvs hts hls hvs' hts' hls' ⊢
    simp only [Fm.size] at hs hs'
    have h1 := Ex.length_le_sizes t
    have h2 := Ex.length_le_sizes t'
    have h3 := Fm.length_le_sizes l
    have h4 := Fm.length_le_sizes l'
    have HV := Lib.hid (fun w' (hx : Ext w w') => equalStrs_any (c := vc) (c' := vc') (by omega) (by omega) (hvs.ext hx) (hvs'.ext hx))
    have HT := Lib.hid (fun w' (hx : Ext w w') => equalEx_any (c := tc) (c' := tc') (fun k h h' w'' hx' x y z x' y' z' hi hi' => sameExpr_any _ _ P Q w'' x y z x' y' z' hi hi' (by have := Ex.size_le_sizes h; omega) (by have := Ex.size_le_sizes h'; omega)) (by omega) (by omega) (hts.ext hx) (hts'.ext hx))
    have HL := Lib.hid (fun w' (hx : Ext w w') => equalFm_any (c := c) (c' := c') (fun k h h' w'' hx' x y z u x' y' z' u' hi hi' => ih _ (List.getElem_mem h) l'[k] P Q w'' x y z u x' y' z' u' hi hi' (by have := Fm.size_le_sizes h; omega) (by have := Fm.size_le_sizes h'; omega)) (by omega) (by omega) (hls.ext hx) (hls'.ext hx))
    clear ih hf hg hvs hvs' hts hts' hls hls' h1 h2 h3 h4
    have HR := Lib.hid (show Fm.same (.mk op v t l) (.mk op' v' t' l') = (decide (op = op') && decide (v = v') && Ex.sames t t' && Fm.sames l l') by simp only [Fm.same])
    generalize decide (v = v') = dv at HV HR
    generalize Ex.sames t t' = dt at HT HR
    generalize Fm.sames l l' = dl at HL HR
    have hx0 : Ext w ((w.alloc (.cells #[.int .i64 op, .slice va v.length vc, .slice ta t.length tc, .slice a l.length c] 27)).alloc (.cells #[.int .i64 op', .slice va' v'.length vc', .slice ta' t'.length tc', .slice a' l'.length c'] 27)) := (ext_alloc _ _).alloc _
    obtain ⟨W, hW⟩ : ∃ W, W = (w.alloc (.cells #[.int .i64 op, .slice va v.length vc, .slice ta t.length tc, .slice a l.length c] 27)).alloc (.cells #[.int .i64 op', .slice va' v'.length vc', .slice ta' t'.length tc', .slice a' l'.length c'] 27) := ⟨_, rfl⟩
    obtain ⟨⟨k0, -⟩, ⟨k1, -⟩, ⟨k2, -⟩, ⟨k3, -⟩⟩ := Own.cells4 (Own.ext (own4 w (.int .i64 op) (.slice va v.length vc) (.slice ta t.length tc) (.slice a l.length c) 27) (ext_alloc _ (.cells #[.int .i64 op', .slice va' v'.length vc', .slice ta' t'.length tc', .slice a' l'.length c'] 27)))
    obtain ⟨⟨m0, -⟩, ⟨m1, -⟩, ⟨m2, -⟩, ⟨m3, -⟩⟩ := (own4 (w.alloc (.cells #[.int .i64 op, .slice va v.length vc, .slice ta t.length tc, .slice a l.length c] 27)) (.int .i64 op') (.slice va' v'.length vc') (.slice ta' t'.length tc') (.slice a' l'.length c') 27).cells4
    rw [World.size_alloc] at m0 m1 m2 m3
    rw [← hW] at hx0 k0 k1 k2 k3 m0 m1 m2 m3
    by_cases ho : op = op'
    case neg =>
      have hof : (op == op') = false := by rw [beq_eq_false_iff_ne]; exact ho
      rw [decide_eq_false ho] at HR
      clear ho
      go_enter Try.func9, Try.ntmps9
      go_upto_region 1 with fail
      rw [← hW]
      clear hW
      go_wp2_with fail
      go_ret
      exact ⟨ret_bool (by rw [HR.out]; rfl), hx0⟩
    have hof : (op == op') = true := by rw [beq_iff_eq]; exact ho
    rw [decide_eq_true ho] at HR
    clear ho
    cases dv with
    | false =>
      go_enter Try.func9, Try.ntmps9
      go_upto_region 1 with fail
      rw [← hW]
      clear hW
      go_wp2_with (go_at_call 20; refine (HV.out _ hx0).mono ?_; rintro e w1 ⟨rfl, hx1⟩)
      go_ret
      exact ⟨ret_bool (by rw [HR.out]; rfl), hx0.trans hx1⟩
    | true =>
    cases dt with
    | false =>
      go_enter Try.func9, Try.ntmps9
      go_upto_region 1 with fail
      rw [← hW]
      clear hW
      go_wp2_with (first
        | (go_at_call 20; refine (HV.out _ hx0).mono ?_; rintro e w1 ⟨rfl, hx1⟩; replace k2 := hx1.cell k2; replace m2 := hx1.cell m2)
        | (go_at_call 21; refine (HT.out _ (hx0.trans hx1)).mono ?_; rintro e w2 ⟨rfl, hx2⟩))
      go_ret
      exact ⟨ret_bool (by rw [HR.out]; rfl), (hx0.trans hx1).trans hx2⟩
    | true =>
      cases dl <;>
      · go_enter Try.func9, Try.ntmps9
        go_upto_region 1 with fail
        rw [← hW]
        clear hW
        go_wp2_with (first
          | (go_at_call 20; refine (HV.out _ hx0).mono ?_; rintro e w1 ⟨rfl, hx1⟩; replace k2 := hx1.cell k2; replace m2 := hx1.cell m2; replace k3 := hx1.cell k3; replace m3 := hx1.cell m3)
          | (go_at_call 21; refine (HT.out _ (hx0.trans hx1)).mono ?_; rintro e w2 ⟨rfl, hx2⟩; replace k3 := hx2.cell k3; replace m3 := hx2.cell m3)
          | (go_at_call 23; refine (HL.out _ ((hx0.trans hx1).trans hx2)).mono ?_; rintro e w3 ⟨rfl, hx3⟩))
        go_ret
        exact ⟨ret_bool (by rw [HR.out]; rfl), ((hx0.trans hx1).trans hx2).trans hx3⟩
end Go.Proofs.Ytnclgkdpafhogaa
