/- How long a formula's text is; the reference's unitText, joined, from what text does. Conditions: formulas that may be, of at most 4194304 parts.
formula.writer: what expr, equation write. Conditions: terms that may be, of at most 4194304 parts; the text is shorter than 2^47.
The reference's text, from what it does on the parts. Conditions: formulas that may be, of at most 4194304 parts.
What a reading of tokens from one of them on says. No condition.
The reference's text: bound formulas, equations; all of it. Conditions: formulas that may be, of at most 4194304 parts.
The reference's text, whole; Text. Conditions: at most 4194304 parts. -/
import Derived.Test.YtnclgkdpafhogaaGreatQ9
import Derived.Test.YtnclgkdpafhogaaGreatQ10
import Derived.Test.YtnclgkdpafhogaaGreatQ14
import Derived.Test.YtnclgkdpafhogaaGreatQ7
import Derived.Test.YtnclgkdpafhogaaGreatQ8
import Derived.Deep.RegionHeld3
import Derived.Test.YtnclgkdpafhogaaGreatQ3
import Derived.Test.YtnclgkdpafhogaaGreatQ11
namespace Go.Proofs.YtnclgkdpafhogaaGreat
open Go.ChangeShapes Go.WideShapes Go.ChangeAt Go.RowKit
theorem unitW_len (op : Int) (s : List UInt8) : (unitW op s).length ≤ s.length + 2 := by
  unfold unitW; split <;> simp
theorem units_len : ∀ (l : List Fm), (∀ e ∈ l, e.text.length + 8 ≤ 60 * e.size) → ∀ (first : Bool) (sep : List UInt8), sep.length ≤ 5 → (Fm.units first sep l).length ≤ 60 * Fm.sizes l
  | [], _, _, _, _ => by simp [Fm.units]
  | e :: l, h, first, sep, hs => by
    have h1 := h e (by simp)
    have h2 := units_len l (fun x hx => h x (by simp [hx])) false sep hs
    have h3 := unitW_len e.op e.text
    have h4 : (if first then [] else sep).length ≤ 5 := by
      split
      · simp
      · exact hs
    simp only [Fm.units, Fm.sizes, List.length_append]
    omega
theorem vars_len : ∀ (l : List ByteArray), (∀ v ∈ l, upperS v = true) → ∀ (first : Bool), (varsText first l).length ≤ 41 * l.length
  | [], _, _ => by simp [varsText]
  | v :: l, h, first => by
    have h1 := h v (by simp)
    unfold upperS at h1
    rw [Bool.and_eq_true] at h1
    have h2 := named_size h1.1
    have e : v.data.toList.length = v.size := by simp
    have h3 := vars_len l (fun x hx => h x (by simp [hx])) false
    have h4 : (if first then [] else [(44 : UInt8)]).length ≤ 1 := by split <;> simp
    simp only [varsText, List.length_append, List.length_cons]
    omega
theorem signOf_len (op : Int) : (signOf op).length ≤ 5 := by
  unfold signOf
  repeat' split
  all_goals decide
theorem eqText_len {t : List Ex} (ht : t.length = 2) (hm : ∀ x ∈ t, x.may = true) {sep : List UInt8} (hs : sep.length ≤ 5) : (eqText sep t).length + 8 ≤ 50 * Ex.sizes t + 15 := by
  match t, ht with
  | [x, y], _ =>
    have h1 := x.text_len (hm x (by simp))
    have h2 := y.text_len (hm y (by simp))
    simp only [eqText, Ex.sizes, List.length_append]
    omega
theorem Fm.text_len (f : Fm) : f.may = true → f.text.length + 8 ≤ 60 * f.size := by
  induction f using Fm.ind with
  | h o v t l ih =>
    intro hm
    simp only [Fm.may, Bool.and_eq_true] at hm
    obtain ⟨hm, hms⟩ := hm
    rw [Fm.mays_all, List.all_eq_true] at hms
    obtain ⟨hv, ht, ht3, hc⟩ := topMay_inv hm
    have ih' : ∀ e ∈ l, e.text.length + 8 ≤ 60 * e.size := fun e he => ih e he (hms e he)
    have hu := fun first sep hs => units_len l ih' first sep hs
    have hso := signOf_len o
    have hul := hu true (signOf o) hso
    have hu0 := hu true [] (by decide)
    simp only [Fm.size]
    rcases hc with ⟨ho, rfl, rfl, hn⟩ | ⟨rfl, rfl, h1, hn⟩ | ⟨rfl, rfl, h1, hn⟩ | ⟨rfl, rfl, rfl, hn⟩ | ⟨ho, rfl, rfl, hn⟩ | ⟨ho, rfl, rfl, hn⟩ | ⟨ho, h1, rfl, hn⟩
    · rcases ho with rfl | rfl
      · rw [Fm.text1.1]; simp [sTrue']; omega
      · rw [Fm.text2.1]; simp [sFalse']; omega
    · rw [Fm.text3.1]
      match t, h1 with
      | [x], _ =>
        have := x.text_len (ht x (by simp))
        simp only [atomText, Ex.sizes]; omega
    · rw [Fm.text4.1]
      have := eqText_len h1 ht (sep := bEq) (by decide)
      omega
    · match l, hn with
      | [g], _ =>
      rw [Fm.text5.1]
      split
      · rename_i hg
        have hgm := hms g (by simp)
        obtain ⟨og, vg, tg, lg⟩ := g
        simp only [List.head?_cons, Option.map_some, Option.some.injEq, Fm.op] at hg
        subst hg
        simp only [Fm.may, Bool.and_eq_true] at hgm
        obtain ⟨-, ht', -, hc'⟩ := topMay_inv hgm.1
        have := eqText_len (by omega) ht' (sep := bNe) (by decide)
        simp only [List.head?_cons, Option.map_some, Fm.terms, Option.getD_some, Fm.sizes, Fm.size]
        omega
      · simp only [List.length_append, bNot, List.length_cons, List.length_nil]
        omega
    · rw [(Fm.text6 (by omega) (by omega)).1]; omega
    · rw [(Fm.text6 (by omega) (by omega)).1]; omega
    · rw [(Fm.text11 (by omega)).1]
      have := vars_len v (upperS_of_from hv) true
      simp only [List.length_append, bOf, List.length_cons, List.length_nil]
      omega
def TextOK (f : Fm) : Prop := f.may = true → f.size ≤ 4194304 → ∀ (P : Nat → Prop) (w : World) (x y z u : Value), IsFm P w x y z u f → Calls Tryz.prog 49 #[.agg #[x, y, z, u]] w fun e w' => e = .returned (.string ⟨f.text.toArray⟩) ∧ Ext w w'
set_option maxHeartbeats 2000000 in
set_option maxRecDepth 100000 in
theorem unitText_any {f : Fm} (hT : TextOK f) (hm : f.may = true) (hs : f.size ≤ 4194304) {P : Nat → Prop} {w : World} {x y z u : Value} (ht : IsFm P w x y z u f) :
    Calls Tryz.prog 94 #[.agg #[x, y, z, u]] w fun e w' => e = .returned (.string ⟨(unitW f.op f.text).toArray⟩) ∧ Ext w w' := by
  have HT := Lib.hid (fun w' (hx : Ext w w') => hT hm hs P w' x y z u (ht.ext hx))
  obtain ⟨b1, c1, b2, c2, b3, c3, rfl, rfl, rfl, rfl, hop1, hop2, -⟩ := ht.form
  have hlen := f.text_len hm
  have hl1 : 1 + f.text.length ≤ 9223372036854775807 := by omega
  have hl2 : 1 + f.text.length + 1 ≤ 9223372036854775807 := by omega
  clear ht
  obtain ⟨W, hW⟩ : ∃ W, W = w.alloc (.cells #[.int .i64 f.op, .slice b1 f.vars.length c1, .slice b2 f.terms.length c2, .slice b3 f.args.length c3] 29) := ⟨_, rfl⟩
  have hx : Ext w W := by rw [hW]; exact ext_alloc _ _
  have hb : Own W w.heap.size [.int .i64 f.op, .slice b1 f.vars.length c1, .slice b2 f.terms.length c2, .slice b3 f.args.length c3] := by rw [hW]; exact own4 w _ _ _ _ _
  obtain ⟨⟨k0, -⟩, ⟨k1, -⟩, ⟨k2, -⟩, ⟨k3, -⟩⟩ := hb.cells4
  have hbl := hb.lt
  have e6 : (f.op == 6) = decide (f.op = 6) := by rw [Bool.eq_iff_iff]; simp
  by_cases hop : 6 ≤ f.op ∧ f.op ≤ 10
  · have HW := Lib.hid (show (⟨(unitW f.op f.text).toArray⟩ : ByteArray) = ⟨(40 :: (f.text ++ [41])).toArray⟩ by unfold unitW; rw [if_pos hop])
    clear e6 hlen
    have hcase : f.op = 6 ∨ f.op = 7 ∨ f.op = 8 ∨ f.op = 9 ∨ f.op = 10 := by omega
    clear hop
    generalize f.op = o at *
    rcases hcase with rfl | rfl | rfl | rfl | rfl
    all_goals
      go_enter Tryz.func94, Tryz.ntmps94
      go_wp2_with (rw [← hW]; clear hW; go_at_call 49; refine (HT.out _ hx).mono ?_; rintro e w1 ⟨rfl, hx1⟩)
      go_ret
      exact ⟨by rw [HW.out]; exact congrArg (fun b => Ending.returned (.string b)) (by apply ByteArray.ext; simp), hx.trans hx1⟩
  · have HW := Lib.hid (show (⟨(unitW f.op f.text).toArray⟩ : ByteArray) = ⟨f.text.toArray⟩ by unfold unitW; rw [if_neg hop])
    have q6 : (f.op == 6) = false := by rw [beq_eq_false_iff_ne]; omega
    have q7 : (f.op == 7) = false := by rw [beq_eq_false_iff_ne]; omega
    have q8 : (f.op == 8) = false := by rw [beq_eq_false_iff_ne]; omega
    have q9 : (f.op == 9) = false := by rw [beq_eq_false_iff_ne]; omega
    have q10 : (f.op == 10) = false := by rw [beq_eq_false_iff_ne]; omega
    clear e6 hlen hop
    go_enter Tryz.func94, Tryz.ntmps94
    go_wp2_with (rw [← hW]; clear hW; go_at_call 49; refine (HT.out _ hx).mono ?_; rintro e w1 ⟨rfl, hx1⟩)
    go_ret
    exact ⟨by rw [HW.out]; rfl, hx.trans hx1⟩
theorem units_take : ∀ (l : List Fm) (first : Bool) (sep : List UInt8) (k : Nat) (h : k < l.length), Fm.units first sep (l.take (k + 1)) = Fm.units first sep (l.take k) ++ ((if k = 0 ∧ first = true then [] else sep) ++ unitW l[k].op l[k].text)
  | [], _, _, _, h => by simp at h
  | e :: l, first, sep, 0, _ => by cases first <;> simp [Fm.units]
  | e :: l, first, sep, k + 1, h => by
    simp only [List.take_succ_cons, Fm.units, List.getElem_cons_succ, List.append_assoc]
    rw [units_take l false sep k (by simpa using h)]
    simp
theorem fsizes_take (l : List Fm) (k : Nat) : Fm.sizes (l.take k) ≤ Fm.sizes l := Fm.sizes_take_le l k
set_option maxHeartbeats 4000000 in
set_option maxRecDepth 100000 in
theorem refJoined_any {l : List Fm} (hT : ∀ e ∈ l, TextOK e) (hm : ∀ e ∈ l, e.may = true) (hs : Fm.sizes l ≤ 4194304) {P : Nat → Prop} {w : World} {a : Option Addr} {c : Nat} (h : IsFms P w a l) {sep : ByteArray} (hsep : sep.size ≤ 5) :
    Calls Tryz.prog 95 #[.slice a l.length c, .string sep] w fun e w' => e = .returned (.string ⟨(Fm.units true sep.data.toList l).toArray⟩) ∧ Ext w w' := by
  have hkl := Fm.length_le_sizes l
  have hsl : sep.data.toList.length = sep.size := by simp
  have HU := Lib.hid (fun (k : Nat) (hk : k < l.length) w' (x : Ext w w') x0 x1 x2 x3 (hi : IsFm P w' x0 x1 x2 x3 l[k]) => unitText_any (hT _ (List.getElem_mem hk)) (hm _ (List.getElem_mem hk)) (by have := Fm.size_le_sizes hk; omega) hi)
  have HL := Lib.hid (fun k => units_len (l.take k) (fun e he => e.text_len (hm e (List.take_subset _ _ he))) true sep.data.toList (by omega))
  have HSL := Lib.hid hsl
  clear hsl
  go_enter Tryz.func95, Tryz.ntmps95
  go_wp2_with fail
  go_loopw [5, 6] (fun sv iv wr => ∃ (k : Nat) (sb : ByteArray), k ≤ l.length ∧ iv = .int .i64 k ∧ sv = .string sb ∧ sb = ⟨(Fm.units true sep.data.toList (l.take k)).toArray⟩ ∧ Ext w wr) (fun _ i _ => l.length - (intOf i).toNat)
  case atStart => exact ⟨0, ⟨#[]⟩, Nat.zero_le _, rfl, rfl, rfl, Below.refl _ _⟩
  case round =>
    obtain ⟨k, sb, hkk, rfl, rfl, hsb, hxr⟩ := hrel
    have htl := HL.out k
    have htk := fsizes_take l k
    have hsz : sb.size ≤ 60 * Fm.sizes l := by rw [hsb, arr_size]; omega
    have Hsb := Lib.hid hsb; clear hsb
    by_cases hlt : k < l.length
    · have hk1 : (k : Int) < l.length := by omega
      have Hst := Lib.hid (units_take l true sep.data.toList k hlt)
      have hte := l[k].text_len (hm _ (List.getElem_mem hlt))
      have htu := unitW_len l[k].op l[k].text
      have hss := Fm.size_le_sizes hlt
      obtain ⟨b', o', a1, c1, a2, c2, a', c', rfl, -, g1, g2, g3, g4, hi⟩ := (IsFms.ext h hxr).look hlt
      have Hi := Lib.hid (HU.out k hlt wr hxr _ _ _ _ hi)
      generalize unitW l[k].op l[k].text = ut at *
      have hq2 : sb.size + sep.size + ut.length ≤ 9223372036854775807 := by omega
      have hq1 : sb.size + sep.size ≤ 9223372036854775807 := by omega
      have hq0 : sb.size + ut.length ≤ 9223372036854775807 := by omega
      have hq3 : ¬ 9223372036854775807 < sb.size + sep.size + ut.length := Nat.not_lt.2 hq2
      clear hi
      by_cases hz : k = 0
      · have hzb : decide ((0 : Int) < (k : Nat)) = false := decide_eq_false (by omega)
        have hz2 : ¬ (0 : Int) < (k : Nat) := by omega
        have Hcb := Lib.hid (show (if k = 0 ∧ true = true then [] else sep.data.toList) = [] by rw [if_pos ⟨hz, rfl⟩])
        clear hz
        go_wp2_with (go_at_call 94; refine (Hi.out).mono ?_; rintro e w2 ⟨rfl, hx2⟩)
        go_roundw
        case rel => exact ⟨k + 1, _, by omega, by go_num, rfl, by rw [Hsb.out, Hst.out, Hcb.out]; simp only [app_arr, List.nil_append], hxr.trans hx2⟩
        case measure => simp [intOf]; omega
      · have hzb : decide ((0 : Int) < (k : Nat)) = true := decide_eq_true (by omega)
        have hz2 : (0 : Int) < (k : Nat) := by omega
        have Hcb := Lib.hid (show (if k = 0 ∧ true = true then [] else sep.data.toList) = sep.data.toList by rw [if_neg (fun h => hz h.1)])
        clear hz
        go_wp2_with (go_at_call 94; refine (Hi.out).mono ?_; rintro e w2 ⟨rfl, hx2⟩)
        go_roundw
        case rel => exact ⟨k + 1, _, by omega, by go_num, rfl, by rw [Hsb.out, Hst.out, Hcb.out]; apply ByteArray.ext; simp, hxr.trans hx2⟩
        case measure => simp [intOf]; omega
    · have hk1 : ¬ (k : Int) < l.length := by omega
      have hke : k = l.length := by omega
      have HS := Lib.hid (show sb = ⟨(Fm.units true sep.data.toList l).toArray⟩ by rw [Hsb.out, hke, List.take_length])
      clear hke
      go_wp2_with fail
      go_ret
      exact ⟨by rw [← HS.out]; rfl, hxr⟩
end Go.Proofs.YtnclgkdpafhogaaGreat
namespace Go.Proofs.YtnclgkdpafhogaaGreat
open Go.ChangeShapes Go.WideShapes Go.ChangeAt Go.RowKit
theorem BFr.ext' {b : Nat} {w w' : World} (h : BFr b w w') {w0 : World} (h0 : Ext w0 w) (hb : w0.heap.size ≤ b) : Ext w0 w' := Below.trans h0 (h.below.mono hb)
theorem BFr.alloc' {b : Nat} {w w' : World} (h : BFr b w w') (hb : b ≤ w'.heap.size) (o : Obj) : BFr b w (w'.alloc o) := ⟨h.below.alloc hb o, h.kept.alloc o⟩
theorem BFr.drew {b : Nat} {w w' : World} (h : BFr b w w') : BFr b w w'.drew := ⟨Below.drew h.below, h.kept.drew⟩
theorem BFr.of_ext {b : Nat} {w w' : World} (h : Ext w w') (hb : b ≤ w.heap.size) : BFr b w w' := ⟨h.mono hb, fun _k _o hk _ _ => h.obj hk⟩
theorem BldT.alloc {T : TypeId} {b : Nat} {l : List UInt8} {w : World} (h : BldT T b l w) (o : Obj) : BldT T b l (w.alloc o) := Lib.IsBuilderF.alloc h o
theorem BldT.drew {T : TypeId} {b : Nat} {l : List UInt8} {w : World} (h : BldT T b l w) : BldT T b l w.drew := h
theorem BldT.ext {T : TypeId} {b : Nat} {l : List UInt8} {w w' : World} (h : BldT T b l w) (hx : Ext w w') : BldT T b l w' := by
  have row : ∀ {v : Value}, w.ownsRowF b 5 1 v (Lib.byteCells l).length (Lib.byteCells l) → w'.ownsRowF b 5 1 v (Lib.byteCells l).length (Lib.byteCells l) := by
    intro v h
    obtain ⟨h1, h2⟩ := h
    refine ⟨h1, ?_⟩
    rcases h2 with h2 | ⟨g, cap, cur, fz, h3, h4, h5, h6⟩
    · exact .inl h2
    · exact .inr ⟨g, cap, cur, fz, h3, h4, hx.obj h5, h6⟩
  rcases h with ⟨h1, v, h2, h3, h4⟩ | ⟨h1, v, h2, h3, h4⟩
  · exact .inl ⟨h1, v, hx.obj h2, row h3, h4⟩
  · exact .inr ⟨h1, v, hx.obj h2, row h3, h4⟩
theorem cell_obj' {w : World} {g : Nat} {c : Array Value} {t : TypeId} {fz : Nat × Nat} (h : w.heap[g]? = some (.cells c t fz)) (i : Nat) : w.cell? ⟨g, i, none⟩ = c[i]? := by
  simp [World.cell?, h]

/-- a writing call: from the writer at block b, that holds acc, to acc and s -/
def Writes (b : Nat) (acc s : List UInt8) (w : World) (e : Ending) (w' : World) : Prop := e = .returned (.tuple #[]) ∧ BldT 84 b (acc ++ s) w' ∧ BFr b w w'

theorem index_sep0 (w : World) : (Instr.index 9 (.string ⟨#[40, 44]⟩) (.int .i64 0)).run Tryz.prog w = .ok (.int .u8 40) w := by kernel_rfl
theorem index_sep1 (w : World) : (Instr.index 9 (.string ⟨#[40, 44]⟩) (.int .i64 1)).run Tryz.prog w = .ok (.int .u8 44) w := by kernel_rfl
theorem Ex.texts_take_le (l : List Ex) (c : UInt8) (k : Nat) : (Ex.texts c (l.take k)).length ≤ (Ex.texts c l).length := by
  induction l generalizing c k with
  | nil => simp [Ex.texts]
  | cons e l ih =>
    cases k with
    | zero => simp [Ex.texts]
    | succ k => have := ih 44 k; simp only [List.take_succ_cons, Ex.texts, List.length_cons, List.length_append]; omega
set_option maxHeartbeats 4000000 in
set_option maxRecDepth 100000 in
theorem wExpr_any (t : Ex) : t.may = true → ∀ (P : Nat → Prop) (w0 w : World) (b : Nat) (acc : List UInt8) (x y z : Value), IsEx P w0 x y z t → t.size ≤ 4194304 → Ext w0 w → w0.heap.size ≤ b → b < w.heap.size →
    BldT 84 b acc w → acc.length + t.text.length ≤ 140737488355328 →
    Calls Tryz.prog 89 #[.pointer (some ⟨b, 0, none⟩), .agg #[x, y, z]] w (Writes b acc t.text w) := by
  induction t using Ex.ind with
  | h v n l ih =>
    intro hm P w0 w b acc x y z ht hs hx0 hb0 hbw hbld hacc
    obtain ⟨a, c, rfl, rfl, rfl, hn, hc1, hk⟩ := ht.form
    simp only [Ex.var, Ex.name, Ex.args] at hn hc1 hk ⊢
    simp only [Ex.size] at hs
    have hkl := Ex.length_le_sizes l
    obtain ⟨W, hW⟩ : ∃ W, W = w.alloc (.cells #[.bool v, .string n, .slice a l.length c] 73) := ⟨_, rfl⟩
    have hfW : BFr b w W := by rw [hW]; exact (BFr.refl b w).alloc' (Nat.le_of_lt hbw) _
    have hbW : BldT 84 b acc W := by rw [hW]; exact hbld.alloc _
    have hoW : W.heap[w.heap.size]? = some (.cells #[.bool v, .string n, .slice a l.length c] 73 (0, 0)) := by rw [hW]; exact objNew _ _
    have hsW : b < W.heap.size := by rw [hW]; simp; omega
    have hx0W : Ext w0 W := hfW.ext' hx0 hb0
    have k0 := cell_obj' hoW 0
    have k1 := cell_obj' hoW 1
    have k2 := cell_obj' hoW 2
    simp only [List.getElem?_toArray, List.getElem?_cons_succ, List.getElem?_cons_zero] at k0 k1 k2
    -- the name that is written
    obtain ⟨q, hq, hms, hcase⟩ : ∃ q : ByteArray, q.data.toList = (if v then n.data.toList else (quoteS n).1.data.toList) ∧ Ex.mays l = true ∧ ((v = true ∧ q = n) ∨ (v = false ∧ q = (quoteS n).1)) := by
      cases v with
      | true =>
        simp only [Ex.may, if_true, Bool.and_eq_true, decide_eq_true_eq] at hm
        exact ⟨n, by simp, by rw [List.eq_nil_of_length_eq_zero hm.1]; rfl, .inl ⟨rfl, rfl⟩⟩
      | false =>
        simp only [Ex.may, Bool.false_eq_true, if_false, Bool.and_eq_true] at hm
        exact ⟨(quoteS n).1, by simp, hm.2, .inr ⟨rfl, rfl⟩⟩
    have eql : q.data.toList.length = q.size := by simp
    have HT : (Ex.mk v n l).text = q.data.toList ++ (Ex.texts 40 l ++ (if 0 < l.length then [41] else [])) := by simp only [Ex.text]; rw [hq]
    have hlen : acc.length + (q.size + ((Ex.texts 40 l).length + (if 0 < l.length then 1 else 0))) ≤ 140737488355328 := by
      rw [HT, List.length_append, List.length_append, eql] at hacc
      have : (if 0 < l.length then [(41 : UInt8)] else []).length = if 0 < l.length then 1 else 0 := by split <;> rfl
      omega
    replace HT := Lib.hid HT
    clear hq hm ht hacc
    have HIH := Lib.hid (fun (k : Nat) (h : k < l.length) w' (hx : Ext w0 w') (hb : b < w'.heap.size) (acc' : List UInt8) (hbl : BldT 84 b acc' w') (hac : acc'.length + l[k].text.length ≤ 140737488355328) (a' : Option Addr) (c' : Nat) (hi : IsEx P w0 (.bool l[k].var) (.string l[k].name) (.slice a' l[k].args.length c') l[k]) =>
      ih _ (List.getElem_mem h) (Ex.mays_at hms h) P w0 w' b acc' _ _ _ hi (by have := Ex.size_le_sizes h; omega) hx hb0 hb hbl hac)
    clear ih hms
    have hq42 : acc.length + q.size ≤ 140737488355328 := by omega
    have Hlen := Lib.hid hlen; clear hlen
    have HQ : (v = true ∧ W.cell? ⟨w.heap.size, 1, none⟩ = some (.string q)) ∨ (v = false ∧ W.cell? ⟨w.heap.size, 1, none⟩ = some (.string n) ∧ ∃ qb, Hid (∀ w, Calls Tryz.prog 75 #[.string n] w fun e w' => e = .returned (.tuple #[.string q, .bool qb]) ∧ w = w')) := by
      rcases hcase with ⟨h1, h2⟩ | ⟨h1, h2⟩
      · exact .inl ⟨h1, by rw [h2]; exact k1⟩
      · exact .inr ⟨h1, k1, (quoteS n).2, Lib.hid (by rw [h2]; exact fun w => tokQuote_any n hn w)⟩
    clear hcase k1
    generalize (Ex.mk v n l).text = TT at HT ⊢
    rcases HQ with ⟨hv, k1⟩ | ⟨hv, k1, qb, HQC⟩
    all_goals
      subst hv
      go_enter Tryz.func89, Tryz.ntmps89
      go_upto_region 1 with fail
      rw [← hW]
      clear hW
      go_wp2_with (first | (go_at_call 75; refine (HQC.out _).mono ?_; rintro e w2 ⟨rfl, rfl⟩) | (go_at_call 76; refine (writeStringT_any wb_writer b acc q _ hbW hq42 (Nat.le_of_lt hsW)).mono ?_; rintro e w3 ⟨rfl, hb3, hf3⟩; have hoW3 := hf3.obj hoW (by omega) (by decide); have m2 := cell_obj' hoW3 2; simp only [List.getElem?_toArray, List.getElem?_cons_succ, List.getElem?_cons_zero] at m2))
      clear k0 k1 k2 hoW3
      go_loopw [25] (fun iv wr => ∃ k : Nat, k ≤ l.length ∧ iv = .int .i64 k ∧ BldT 84 b (acc ++ q.data.toList ++ Ex.texts 40 (l.take k)) wr ∧ BFr b W wr) (fun i _ => l.length - (intOf i).toNat)
      case atStart => exact ⟨0, Nat.zero_le _, rfl, by simpa [Ex.texts] using hb3, hf3⟩
      case round =>
        obtain ⟨k, hkk, rfl, hbr, hfr⟩ := hrel
        have hor := hfr.obj hoW (by omega) (by decide)
        have hsr := hfr.below.size
        have m2 := cell_obj' hor 2
        simp only [List.getElem?_toArray, List.getElem?_cons_succ, List.getElem?_cons_zero] at m2
        by_cases hlt : k < l.length
        · have hk1 : (k : Int) < l.length := by omega
          have hxr := hfr.ext' hx0W hb0
          obtain ⟨b', o', a', c', rfl, -, g1, g2, g3, hi⟩ := hk.look hlt
          have g1' := hxr.cell g1
          have g2' := hxr.cell g2
          have g3' := hxr.cell g3
          have hst := Ex.texts_take l 40 k hlt
          have htl := Ex.texts_take_le l 40 (k + 1)
          have hl0 := Hlen.out
          rw [hst] at htl
          simp only [List.length_append, List.length_cons] at htl
          have Hst := Lib.hid hst; clear hst
          obtain ⟨V, hV⟩ : ∃ V, V = wr.alloc (.cells #[.bool l[k].var, .string l[k].name, .slice a' l[k].args.length c'] 73) := ⟨_, rfl⟩
          have hbV : BldT 84 b (acc ++ q.data.toList ++ Ex.texts 40 (l.take k)) V := by rw [hV]; exact hbr.alloc _
          have hfV : BFr b W V := by rw [hV]; exact hfr.alloc' (by omega) _
          have hoV : V.heap[wr.heap.size]? = some (.cells #[.bool l[k].var, .string l[k].name, .slice a' l[k].args.length c'] 73 (0, 0)) := by rw [hV]; exact objNew _ _
          have hle : (acc ++ q.data.toList ++ Ex.texts 40 (l.take k)).length + 1 ≤ 140737488355328 := by simp only [List.length_append]; omega
          have hsV : b < V.heap.size := by have := hfV.below.size; omega
          obtain ⟨cb, cz, ci, hmin, hcz, hcb, hix⟩ : ∃ (cb : UInt8) (cz ci : Int), min (k : Int) 1 = ci ∧ cz = (cb.toNat : Int) ∧ cb = (if k = 0 then (40 : UInt8) else 44) ∧ ∀ w : World, (Instr.index 9 (.string ⟨#[40, 44]⟩) (.int .i64 ci)).run Tryz.prog w = .ok (.int .u8 cz) w := by
            by_cases hz : k = 0
            · exact ⟨40, 40, 0, by omega, by decide, by rw [if_pos hz], index_sep0⟩
            · exact ⟨44, 44, 1, by omega, by decide, by rw [if_neg hz], index_sep1⟩
          rw [← hcb] at Hst
          have HWB := Lib.hid (fun w' (hb : BldT 84 b (acc ++ q.data.toList ++ Ex.texts 40 (l.take k)) w') (hs : b ≤ w'.heap.size) => writeByteT_any wb_writer b _ cb w' hb hle hs)
          rw [← hcz] at HWB
          have hle2 : (acc ++ q.data.toList ++ Ex.texts 40 (l.take k) ++ [cb]).length + l[k].text.length ≤ 140737488355328 := by simp only [List.length_append, List.length_cons, List.length_nil]; omega
          clear hcz hcb hle htl hl0
          go_wp2_with fail
          rw [← hV]
          clear hV
          go_still_tail 6, (by kernel_rfl)
          change wpList _ _ _ _ _ V.drew
          go_wp2_with (first
            | (go_at_call 140; refine (HWB.out _ hbV.drew (Nat.le_of_lt hsV)).mono ?_; rintro e w4 ⟨rfl, hb4, hf4⟩; have ho4 := hf4.obj (show V.drew.heap[wr.heap.size]? = _ from hoV) (by omega) (by decide); have n0 := cell_obj' ho4 0; have n1 := cell_obj' ho4 1; have n2 := cell_obj' ho4 2; simp only [List.getElem?_toArray, List.getElem?_cons_succ, List.getElem?_cons_zero] at n0 n1 n2; have hf5 := hfV.drew.trans hf4; have hx5 := hf5.ext' hx0W hb0; have hs5 := hf4.below.size)
            | (go_at_call 89; refine (HIH.out k hlt w4 hx5 (by have : V.drew.heap.size = V.heap.size := rfl; omega) _ hb4 hle2 a' c' hi).mono ?_; rintro e w6 ⟨rfl, hb6, hf6⟩))
          go_roundw
          case rel => exact ⟨k + 1, by omega, by go_num, by rw [Hst.out]; simpa [List.append_assoc] using hb6, hf5.trans hf6⟩
          case measure => simp [intOf]; omega
        · have hk1 : ¬ (k : Int) < l.length := by omega
          have hke : k = l.length := by omega
          rw [hke, List.take_length] at hbr
          have hl0 := Hlen.out
          clear hke
          by_cases h0 : 0 < l.length
          · have hd0 : decide ((0 : Int) < (l.length : Nat)) = true := decide_eq_true (by omega)
            have h0' : (0 : Int) < (l.length : Nat) := by omega
            rw [if_pos h0] at hl0
            replace HT := Lib.hid (show TT = q.data.toList ++ (Ex.texts 40 l ++ [41]) by rw [HT.out, if_pos h0])
            have hle : (acc ++ q.data.toList ++ Ex.texts 40 l).length + 1 ≤ 140737488355328 := by simp only [List.length_append]; omega
            clear h0 hl0
            go_wp2_with (go_at_call 140; refine (writeByteT_any wb_writer b _ 41 _ hbr hle (by omega)).mono ?_; rintro e w4 ⟨rfl, hb4, hf4⟩)
            go_returns
            exact ⟨rfl, by rw [HT.out]; simpa [List.append_assoc] using hb4, (hfW.trans hfr).trans hf4⟩
          · have hd0 : decide ((0 : Int) < (l.length : Nat)) = false := decide_eq_false (by omega)
            have h0' : ¬ (0 : Int) < (l.length : Nat) := by omega
            replace HT := Lib.hid (show TT = q.data.toList ++ Ex.texts 40 l by rw [HT.out, if_neg h0, List.append_nil])
            clear h0 hl0
            go_wp2_with fail
            go_returns
            exact ⟨rfl, by rw [HT.out]; simpa [List.append_assoc] using hbr, hfW.trans hfr⟩

set_option maxHeartbeats 4000000 in
set_option maxRecDepth 100000 in
/-- equation: the first term, the sign, the second one -/
theorem wEquation_any {P : Nat → Prop} {w0 w : World} {b : Nat} {acc : List UInt8} {x y z u : Value} {f : Fm} {e1 e2 : Ex} (hte : f.terms = [e1, e2]) (hm1 : e1.may = true) (hm2 : e2.may = true) (h1s : e1.size ≤ 4194304) (h2s : e2.size ≤ 4194304) (sep : ByteArray) (ht : IsFm P w0 x y z u f) (hx0 : Ext w0 w) (hb0 : w0.heap.size ≤ b) (hbw : b < w.heap.size)
    (hbld : BldT 84 b acc w) (hlen : acc.length + (e1.text.length + (sep.size + e2.text.length)) ≤ 140737488355328) :
    Calls Tryz.prog 90 #[.pointer (some ⟨b, 0, none⟩), .agg #[x, y, z, u], .string sep] w (Writes b acc (e1.text ++ (sep.data.toList ++ e2.text)) w) := by
  obtain ⟨b1, c1, b2, c2, b3, c3, rfl, rfl, rfl, rfl, -, -, -, htc, -, -, hts, -⟩ := ht.form
  rw [hte] at hts htc ⊢
  obtain ⟨W, hW⟩ : ∃ W, W = w.alloc (.cells #[.int .i64 f.op, .slice b1 f.vars.length c1, .slice b2 [e1, e2].length c2, .slice b3 f.args.length c3] 29) := ⟨_, rfl⟩
  have hfW : BFr b w W := by rw [hW]; exact (BFr.refl b w).alloc' (Nat.le_of_lt hbw) _
  have hbW : BldT 84 b acc W := by rw [hW]; exact hbld.alloc _
  have hoW : W.heap[w.heap.size]? = some (.cells #[.int .i64 f.op, .slice b1 f.vars.length c1, .slice b2 [e1, e2].length c2, .slice b3 f.args.length c3] 29 (0, 0)) := by rw [hW]; exact objNew _ _
  have hsW : b < W.heap.size := by rw [hW]; simp; omega
  have hx0W : Ext w0 W := hfW.ext' hx0 hb0
  have k2 := cell_obj' hoW 2
  simp only [List.getElem?_toArray, List.getElem?_cons_succ, List.getElem?_cons_zero] at k2
  obtain ⟨b', o', a1, d1, rfl, -, g1, g2, g3, hi1⟩ := hts.look (i := 0) (by simp)
  obtain ⟨b'', o'', a2, d2, he, -, g4, g5, g6, hi2⟩ := hts.look (i := 1) (by simp)
  injection he with he; injection he with he1 he2 _
  subst he1; subst he2
  simp only [List.getElem_cons_zero, List.getElem_cons_succ, Nat.zero_mul, Nat.add_zero, Nat.one_mul, List.length_cons, List.length_nil, Nat.zero_add, Nat.reduceAdd] at g1 g2 g3 g4 g5 g6 hi1 hi2 hoW hW k2
  have g1' := hx0W.cell g1
  have g2' := hx0W.cell g2
  have g3' := hx0W.cell g3
  have H1 := Lib.hid (fun (hac : acc.length + e1.text.length ≤ 140737488355328) => wExpr_any e1 hm1 P w0 W b acc _ _ _ hi1 h1s hx0W hb0 hsW hbW hac)
  have H2 := Lib.hid (fun w' (hx : Ext w0 w') (hb : b < w'.heap.size) (acc' : List UInt8) (hbl : BldT 84 b acc' w') (hac : acc'.length + e2.text.length ≤ 140737488355328) => wExpr_any e2 hm2 P w0 w' b acc' _ _ _ hi2 h2s hx hb0 hb hbl hac)
  have q1 : acc.length + e1.text.length ≤ 140737488355328 := by omega
  have q2 : (acc ++ e1.text).length + sep.size ≤ 140737488355328 := by simp only [List.length_append]; omega
  have q3 : (acc ++ e1.text ++ sep.data.toList).length + e2.text.length ≤ 140737488355328 := by
    have : sep.data.toList.length = sep.size := by simp
    simp only [List.length_append]; omega
  have Hts := Lib.hid hts
  clear hi1 hi2 hts hlen hm1 hm2 ht
  simp only [List.length_cons, List.length_nil, Nat.zero_add, Nat.reduceAdd]
  go_enter Tryz.func90, Tryz.ntmps90
  go_upto_region 1 with fail
  rw [← hW]
  clear hW
  go_wp2_with (first
    | (go_at_call 89; refine (H1.out q1).mono ?_; rintro e w3 ⟨rfl, hb3, hf3⟩; have hoW3 := hf3.obj hoW (by omega) (by decide); have m2 := cell_obj' hoW3 2; simp only [List.getElem?_toArray, List.getElem?_cons_succ, List.getElem?_cons_zero] at m2; have hs3 := hf3.below.size; clear H1)
    | (go_at_call 76; refine (writeStringT_any wb_writer b _ sep _ hb3 q2 (by omega)).mono ?_; rintro e w4 ⟨rfl, hb4, hf4⟩; have hoW4 := hf4.obj hoW3 (by omega) (by decide); have m3 := cell_obj' hoW4 2; simp only [List.getElem?_toArray, List.getElem?_cons_succ, List.getElem?_cons_zero] at m3; have hs4 := hf4.below.size; have hf5 := hf3.trans hf4; have hx5 := hf5.ext' hx0W hb0; have n1 := hx5.cell g4; have n2 := hx5.cell g5; have n3 := hx5.cell g6)
    | (go_at_call 89; refine (H2.out w4 hx5 (by omega) _ hb4 q3).mono ?_; rintro e w6 ⟨rfl, hb6, hf6⟩))
  go_returns
  exact ⟨rfl, by simpa [List.append_assoc] using hb6, hfW.trans (hf5.trans hf6)⟩
end Go.Proofs.YtnclgkdpafhogaaGreat
namespace Go.Proofs.YtnclgkdpafhogaaGreat
open Go.ChangeShapes Go.WideShapes Go.ChangeAt Go.RowKit
set_option maxHeartbeats 4000000 in
set_option maxRecDepth 100000 in
theorem text_op1 {P : Nat → Prop} {w : World} {x y z u : Value} {v : List ByteArray} {t : List Ex} {l : List Fm} (ht : IsFm P w x y z u (.mk 1 v t l)) :
    Calls Tryz.prog 49 #[.agg #[x, y, z, u]] w fun e w' => e = .returned (.string ⟨(Fm.mk 1 v t l).text.toArray⟩) ∧ Ext w w' := by
  obtain ⟨b1, c1, b2, c2, b3, c3, rfl, rfl, rfl, rfl, -, -, hvc, htc, hlc, hvs, hts, hls⟩ := ht.form
  simp only [Fm.op, Fm.vars, Fm.terms, Fm.args] at hvc htc hlc hvs hts hls ⊢
  obtain ⟨W, hW⟩ : ∃ W, W = w.alloc (.cells #[.int .i64 1, .slice b1 v.length c1, .slice b2 t.length c2, .slice b3 l.length c3] 29) := ⟨_, rfl⟩
  have hx : Ext w W := by rw [hW]; exact ext_alloc _ _
  have hb : Own W w.heap.size [.int .i64 1, .slice b1 v.length c1, .slice b2 t.length c2, .slice b3 l.length c3] := by rw [hW]; exact own4 w _ _ _ _ _
  obtain ⟨⟨k0, -⟩, ⟨k1, -⟩, ⟨k2, -⟩, ⟨k3, -⟩⟩ := hb.cells4
  have hbl := hb.lt
  clear ht
  have HT := Lib.hid (show (⟨(Fm.mk 1 v t l).text.toArray⟩ : ByteArray) = sTrue by rw [Fm.text1.1]; rfl)
  go_enter Tryz.func49, Tryz.ntmps49
  go_upto_region 1 with fail
  rw [← hW]
  clear hW
  go_wp2
  go_ret
  exact ⟨by rw [HT.out]; rfl, hx⟩

set_option maxHeartbeats 4000000 in
set_option maxRecDepth 100000 in
theorem text_op2 {P : Nat → Prop} {w : World} {x y z u : Value} {v : List ByteArray} {t : List Ex} {l : List Fm} (ht : IsFm P w x y z u (.mk 2 v t l)) :
    Calls Tryz.prog 49 #[.agg #[x, y, z, u]] w fun e w' => e = .returned (.string ⟨(Fm.mk 2 v t l).text.toArray⟩) ∧ Ext w w' := by
  obtain ⟨b1, c1, b2, c2, b3, c3, rfl, rfl, rfl, rfl, -, -, hvc, htc, hlc, hvs, hts, hls⟩ := ht.form
  simp only [Fm.op, Fm.vars, Fm.terms, Fm.args] at hvc htc hlc hvs hts hls ⊢
  obtain ⟨W, hW⟩ : ∃ W, W = w.alloc (.cells #[.int .i64 2, .slice b1 v.length c1, .slice b2 t.length c2, .slice b3 l.length c3] 29) := ⟨_, rfl⟩
  have hx : Ext w W := by rw [hW]; exact ext_alloc _ _
  have hb : Own W w.heap.size [.int .i64 2, .slice b1 v.length c1, .slice b2 t.length c2, .slice b3 l.length c3] := by rw [hW]; exact own4 w _ _ _ _ _
  obtain ⟨⟨k0, -⟩, ⟨k1, -⟩, ⟨k2, -⟩, ⟨k3, -⟩⟩ := hb.cells4
  have hbl := hb.lt
  clear ht
  have HT := Lib.hid (show (⟨(Fm.mk 2 v t l).text.toArray⟩ : ByteArray) = sFalse by rw [Fm.text2.1]; rfl)
  go_enter Tryz.func49, Tryz.ntmps49
  go_upto_region 1 with fail
  rw [← hW]
  clear hW
  go_wp2
  go_ret
  exact ⟨by rw [HT.out]; rfl, hx⟩

set_option maxHeartbeats 4000000 in
set_option maxRecDepth 100000 in
theorem text_op3 {P : Nat → Prop} {w : World} {x y z u : Value} {v : List ByteArray} {t : List Ex} {l : List Fm} (ht : IsFm P w x y z u (.mk 3 v t l)) (h1 : t.length = 1) (hm : ∀ x ∈ t, x.may = true) (hs : Ex.sizes t ≤ 4194304) :
    Calls Tryz.prog 49 #[.agg #[x, y, z, u]] w fun e w' => e = .returned (.string ⟨(Fm.mk 3 v t l).text.toArray⟩) ∧ Ext w w' := by
  obtain ⟨b1, c1, b2, c2, b3, c3, rfl, rfl, rfl, rfl, -, -, hvc, htc, hlc, hvs, hts, hls⟩ := ht.form
  simp only [Fm.op, Fm.vars, Fm.terms, Fm.args] at hvc htc hlc hvs hts hls ⊢
  obtain ⟨W, hW⟩ : ∃ W, W = w.alloc (.cells #[.int .i64 3, .slice b1 v.length c1, .slice b2 t.length c2, .slice b3 l.length c3] 29) := ⟨_, rfl⟩
  have hx : Ext w W := by rw [hW]; exact ext_alloc _ _
  have hb : Own W w.heap.size [.int .i64 3, .slice b1 v.length c1, .slice b2 t.length c2, .slice b3 l.length c3] := by rw [hW]; exact own4 w _ _ _ _ _
  obtain ⟨⟨k0, -⟩, ⟨k1, -⟩, ⟨k2, -⟩, ⟨k3, -⟩⟩ := hb.cells4
  have hbl := hb.lt
  clear ht
  match t, h1 with
  | [e], _ =>
  have HT := Lib.hid (show (⟨(Fm.mk 3 v [e] l).text.toArray⟩ : ByteArray) = ⟨e.text.toArray⟩ by rw [Fm.text3.1]; rfl)
  obtain ⟨b', o', a', c', rfl, -, g1, g2, g3, hi⟩ := (IsExs.ext hts hx).look (i := 0) (by simp)
  simp only [List.getElem_cons_zero, Nat.zero_mul, Nat.add_zero] at g1 g2 g3 hi
  have hsz : e.size ≤ 4194304 := by simp only [Ex.sizes] at hs; omega
  have HX := Lib.hid (refExprText_any e (hm e (by simp)) _ W _ _ _ hi hsz)
  clear hi hts
  simp only [List.length_cons, List.length_nil, Nat.zero_add] at hW k2 hb ⊢
  go_enter Tryz.func49, Tryz.ntmps49
  go_upto_region 1 with fail
  rw [← hW]
  clear hW
  go_wp2_with (go_at_call 93; refine (HX.out).mono ?_; rintro e w1 ⟨rfl, hx1⟩)
  go_ret
  exact ⟨by rw [HT.out]; rfl, hx.trans hx1⟩

set_option maxHeartbeats 4000000 in
set_option maxRecDepth 100000 in
theorem text_not {P : Nat → Prop} {w : World} {x y z u : Value} {v : List ByteArray} {t : List Ex} {l : List Fm} (ht : IsFm P w x y z u (.mk 5 v t l)) (h1 : l.length = 1) (hT : ∀ e ∈ l, TextOK e) (hm : ∀ e ∈ l, e.may = true) (hs : Fm.sizes l ≤ 4194304) (h4 : l.head?.map Fm.op ≠ some 4) :
    Calls Tryz.prog 49 #[.agg #[x, y, z, u]] w fun e w' => e = .returned (.string ⟨(Fm.mk 5 v t l).text.toArray⟩) ∧ Ext w w' := by
  obtain ⟨b1, c1, b2, c2, b3, c3, rfl, rfl, rfl, rfl, -, -, hvc, htc, hlc, hvs, hts, hls⟩ := ht.form
  simp only [Fm.op, Fm.vars, Fm.terms, Fm.args] at hvc htc hlc hvs hts hls ⊢
  obtain ⟨W, hW⟩ : ∃ W, W = w.alloc (.cells #[.int .i64 5, .slice b1 v.length c1, .slice b2 t.length c2, .slice b3 l.length c3] 29) := ⟨_, rfl⟩
  have hx : Ext w W := by rw [hW]; exact ext_alloc _ _
  have hb : Own W w.heap.size [.int .i64 5, .slice b1 v.length c1, .slice b2 t.length c2, .slice b3 l.length c3] := by rw [hW]; exact own4 w _ _ _ _ _
  obtain ⟨⟨k0, -⟩, ⟨k1, -⟩, ⟨k2, -⟩, ⟨k3, -⟩⟩ := hb.cells4
  have hbl := hb.lt
  clear ht
  match l, h1 with
  | [g], _ =>
  have HT := Lib.hid (show (⟨(Fm.mk 5 v t [g]).text.toArray⟩ : ByteArray) = ⟨#[126, 32]⟩ ++ ⟨(unitW g.op g.text).toArray⟩ by rw [Fm.text5.1, if_neg h4]; simp only [Fm.units, if_true, List.nil_append, List.append_nil]; apply ByteArray.ext; simp [bNot])
  obtain ⟨b', o', a1, d1, a2, d2, a', c', rfl, -, g1, g2, g3, g4, hi⟩ := (IsFms.ext hls hx).look (i := 0) (by simp)
  simp only [List.getElem_cons_zero, Nat.zero_mul, Nat.add_zero] at g1 g2 g3 g4 hi
  have hsz : g.size ≤ 4194304 := by simp only [Fm.sizes] at hs; omega
  have h4' : (g.op == 4) = false := by rw [beq_eq_false_iff_ne]; intro h; exact h4 (by simp [h])
  have hlen := g.text_len (hm g (by simp))
  have hul := unitW_len g.op g.text
  have HX := Lib.hid (unitText_any (hT g (by simp)) (hm g (by simp)) hsz hi)
  have hl1 : 2 + (unitW g.op g.text).length ≤ 9223372036854775807 := by omega
  clear hi hls h4
  generalize unitW g.op g.text = ut at *
  simp only [List.length_cons, List.length_nil, Nat.zero_add] at hW k3 hb ⊢
  go_enter Tryz.func49, Tryz.ntmps49
  go_upto_region 1 with fail
  rw [← hW]
  clear hW
  go_wp2_with (go_at_call 94; refine (HX.out).mono ?_; rintro e w1 ⟨rfl, hx1⟩)
  go_ret
  exact ⟨by rw [HT.out]; rfl, hx.trans hx1⟩

set_option maxHeartbeats 4000000 in
set_option maxRecDepth 100000 in
theorem text_op6 {P : Nat → Prop} {w : World} {x y z u : Value} {v : List ByteArray} {t : List Ex} {l : List Fm} (ht : IsFm P w x y z u (.mk 6 v t l)) (hT : ∀ e ∈ l, TextOK e) (hm : ∀ e ∈ l, e.may = true) (hs : Fm.sizes l ≤ 4194304) :
    Calls Tryz.prog 49 #[.agg #[x, y, z, u]] w fun e w' => e = .returned (.string ⟨(Fm.mk 6 v t l).text.toArray⟩) ∧ Ext w w' := by
  obtain ⟨b1, c1, b2, c2, b3, c3, rfl, rfl, rfl, rfl, -, -, hvc, htc, hlc, hvs, hts, hls⟩ := ht.form
  simp only [Fm.op, Fm.vars, Fm.terms, Fm.args] at hvc htc hlc hvs hts hls ⊢
  obtain ⟨W, hW⟩ : ∃ W, W = w.alloc (.cells #[.int .i64 6, .slice b1 v.length c1, .slice b2 t.length c2, .slice b3 l.length c3] 29) := ⟨_, rfl⟩
  have hx : Ext w W := by rw [hW]; exact ext_alloc _ _
  have hb : Own W w.heap.size [.int .i64 6, .slice b1 v.length c1, .slice b2 t.length c2, .slice b3 l.length c3] := by rw [hW]; exact own4 w _ _ _ _ _
  obtain ⟨⟨k0, -⟩, ⟨k1, -⟩, ⟨k2, -⟩, ⟨k3, -⟩⟩ := hb.cells4
  have hbl := hb.lt
  clear ht
  have HT := Lib.hid (show (⟨(Fm.mk 6 v t l).text.toArray⟩ : ByteArray) = ⟨(Fm.units true [32, 38, 32] l).toArray⟩ by rw [(Fm.text6 (by decide) (by decide)).1]; rfl)
  have HX := Lib.hid (refJoined_any (c := c3) hT hm hs (IsFms.ext hls hx) (sep := ⟨#[32, 38, 32]⟩) (by decide))
  replace HX := Lib.hid (show Calls Tryz.prog 95 #[.slice b3 l.length c3, .string ⟨#[32, 38, 32]⟩] W fun e w' => e = .returned (.string ⟨(Fm.units true [32, 38, 32] l).toArray⟩) ∧ Ext W w' from HX.out)
  clear hls
  go_enter Tryz.func49, Tryz.ntmps49
  go_upto_region 1 with fail
  rw [← hW]
  clear hW
  go_wp2_with (go_at_call 95; refine (HX.out).mono ?_; rintro e w1 ⟨rfl, hx1⟩)
  go_ret
  exact ⟨by rw [HT.out]; rfl, hx.trans hx1⟩

set_option maxHeartbeats 4000000 in
set_option maxRecDepth 100000 in
theorem text_op7 {P : Nat → Prop} {w : World} {x y z u : Value} {v : List ByteArray} {t : List Ex} {l : List Fm} (ht : IsFm P w x y z u (.mk 7 v t l)) (hT : ∀ e ∈ l, TextOK e) (hm : ∀ e ∈ l, e.may = true) (hs : Fm.sizes l ≤ 4194304) :
    Calls Tryz.prog 49 #[.agg #[x, y, z, u]] w fun e w' => e = .returned (.string ⟨(Fm.mk 7 v t l).text.toArray⟩) ∧ Ext w w' := by
  obtain ⟨b1, c1, b2, c2, b3, c3, rfl, rfl, rfl, rfl, -, -, hvc, htc, hlc, hvs, hts, hls⟩ := ht.form
  simp only [Fm.op, Fm.vars, Fm.terms, Fm.args] at hvc htc hlc hvs hts hls ⊢
  obtain ⟨W, hW⟩ : ∃ W, W = w.alloc (.cells #[.int .i64 7, .slice b1 v.length c1, .slice b2 t.length c2, .slice b3 l.length c3] 29) := ⟨_, rfl⟩
  have hx : Ext w W := by rw [hW]; exact ext_alloc _ _
  have hb : Own W w.heap.size [.int .i64 7, .slice b1 v.length c1, .slice b2 t.length c2, .slice b3 l.length c3] := by rw [hW]; exact own4 w _ _ _ _ _
  obtain ⟨⟨k0, -⟩, ⟨k1, -⟩, ⟨k2, -⟩, ⟨k3, -⟩⟩ := hb.cells4
  have hbl := hb.lt
  clear ht
  have HT := Lib.hid (show (⟨(Fm.mk 7 v t l).text.toArray⟩ : ByteArray) = ⟨(Fm.units true [32, 124, 32] l).toArray⟩ by rw [(Fm.text6 (by decide) (by decide)).1]; rfl)
  have HX := Lib.hid (refJoined_any (c := c3) hT hm hs (IsFms.ext hls hx) (sep := ⟨#[32, 124, 32]⟩) (by decide))
  replace HX := Lib.hid (show Calls Tryz.prog 95 #[.slice b3 l.length c3, .string ⟨#[32, 124, 32]⟩] W fun e w' => e = .returned (.string ⟨(Fm.units true [32, 124, 32] l).toArray⟩) ∧ Ext W w' from HX.out)
  clear hls
  go_enter Tryz.func49, Tryz.ntmps49
  go_upto_region 1 with fail
  rw [← hW]
  clear hW
  go_wp2_with (go_at_call 95; refine (HX.out).mono ?_; rintro e w1 ⟨rfl, hx1⟩)
  go_ret
  exact ⟨by rw [HT.out]; rfl, hx.trans hx1⟩

set_option maxHeartbeats 4000000 in
set_option maxRecDepth 100000 in
theorem text_op8 {P : Nat → Prop} {w : World} {x y z u : Value} {v : List ByteArray} {t : List Ex} {l : List Fm} (ht : IsFm P w x y z u (.mk 8 v t l)) (hT : ∀ e ∈ l, TextOK e) (hm : ∀ e ∈ l, e.may = true) (hs : Fm.sizes l ≤ 4194304) :
    Calls Tryz.prog 49 #[.agg #[x, y, z, u]] w fun e w' => e = .returned (.string ⟨(Fm.mk 8 v t l).text.toArray⟩) ∧ Ext w w' := by
  obtain ⟨b1, c1, b2, c2, b3, c3, rfl, rfl, rfl, rfl, -, -, hvc, htc, hlc, hvs, hts, hls⟩ := ht.form
  simp only [Fm.op, Fm.vars, Fm.terms, Fm.args] at hvc htc hlc hvs hts hls ⊢
  obtain ⟨W, hW⟩ : ∃ W, W = w.alloc (.cells #[.int .i64 8, .slice b1 v.length c1, .slice b2 t.length c2, .slice b3 l.length c3] 29) := ⟨_, rfl⟩
  have hx : Ext w W := by rw [hW]; exact ext_alloc _ _
  have hb : Own W w.heap.size [.int .i64 8, .slice b1 v.length c1, .slice b2 t.length c2, .slice b3 l.length c3] := by rw [hW]; exact own4 w _ _ _ _ _
  obtain ⟨⟨k0, -⟩, ⟨k1, -⟩, ⟨k2, -⟩, ⟨k3, -⟩⟩ := hb.cells4
  have hbl := hb.lt
  clear ht
  have HT := Lib.hid (show (⟨(Fm.mk 8 v t l).text.toArray⟩ : ByteArray) = ⟨(Fm.units true [32, 61, 62, 32] l).toArray⟩ by rw [(Fm.text6 (by decide) (by decide)).1]; rfl)
  have HX := Lib.hid (refJoined_any (c := c3) hT hm hs (IsFms.ext hls hx) (sep := ⟨#[32, 61, 62, 32]⟩) (by decide))
  replace HX := Lib.hid (show Calls Tryz.prog 95 #[.slice b3 l.length c3, .string ⟨#[32, 61, 62, 32]⟩] W fun e w' => e = .returned (.string ⟨(Fm.units true [32, 61, 62, 32] l).toArray⟩) ∧ Ext W w' from HX.out)
  clear hls
  go_enter Tryz.func49, Tryz.ntmps49
  go_upto_region 1 with fail
  rw [← hW]
  clear hW
  go_wp2_with (go_at_call 95; refine (HX.out).mono ?_; rintro e w1 ⟨rfl, hx1⟩)
  go_ret
  exact ⟨by rw [HT.out]; rfl, hx.trans hx1⟩

set_option maxHeartbeats 4000000 in
set_option maxRecDepth 100000 in
theorem text_op9 {P : Nat → Prop} {w : World} {x y z u : Value} {v : List ByteArray} {t : List Ex} {l : List Fm} (ht : IsFm P w x y z u (.mk 9 v t l)) (hT : ∀ e ∈ l, TextOK e) (hm : ∀ e ∈ l, e.may = true) (hs : Fm.sizes l ≤ 4194304) :
    Calls Tryz.prog 49 #[.agg #[x, y, z, u]] w fun e w' => e = .returned (.string ⟨(Fm.mk 9 v t l).text.toArray⟩) ∧ Ext w w' := by
  obtain ⟨b1, c1, b2, c2, b3, c3, rfl, rfl, rfl, rfl, -, -, hvc, htc, hlc, hvs, hts, hls⟩ := ht.form
  simp only [Fm.op, Fm.vars, Fm.terms, Fm.args] at hvc htc hlc hvs hts hls ⊢
  obtain ⟨W, hW⟩ : ∃ W, W = w.alloc (.cells #[.int .i64 9, .slice b1 v.length c1, .slice b2 t.length c2, .slice b3 l.length c3] 29) := ⟨_, rfl⟩
  have hx : Ext w W := by rw [hW]; exact ext_alloc _ _
  have hb : Own W w.heap.size [.int .i64 9, .slice b1 v.length c1, .slice b2 t.length c2, .slice b3 l.length c3] := by rw [hW]; exact own4 w _ _ _ _ _
  obtain ⟨⟨k0, -⟩, ⟨k1, -⟩, ⟨k2, -⟩, ⟨k3, -⟩⟩ := hb.cells4
  have hbl := hb.lt
  clear ht
  have HT := Lib.hid (show (⟨(Fm.mk 9 v t l).text.toArray⟩ : ByteArray) = ⟨(Fm.units true [32, 60, 61, 62, 32] l).toArray⟩ by rw [(Fm.text6 (by decide) (by decide)).1]; rfl)
  have HX := Lib.hid (refJoined_any (c := c3) hT hm hs (IsFms.ext hls hx) (sep := ⟨#[32, 60, 61, 62, 32]⟩) (by decide))
  replace HX := Lib.hid (show Calls Tryz.prog 95 #[.slice b3 l.length c3, .string ⟨#[32, 60, 61, 62, 32]⟩] W fun e w' => e = .returned (.string ⟨(Fm.units true [32, 60, 61, 62, 32] l).toArray⟩) ∧ Ext W w' from HX.out)
  clear hls
  go_enter Tryz.func49, Tryz.ntmps49
  go_upto_region 1 with fail
  rw [← hW]
  clear hW
  go_wp2_with (go_at_call 95; refine (HX.out).mono ?_; rintro e w1 ⟨rfl, hx1⟩)
  go_ret
  exact ⟨by rw [HT.out]; rfl, hx.trans hx1⟩

set_option maxHeartbeats 4000000 in
set_option maxRecDepth 100000 in
theorem text_op10 {P : Nat → Prop} {w : World} {x y z u : Value} {v : List ByteArray} {t : List Ex} {l : List Fm} (ht : IsFm P w x y z u (.mk 10 v t l)) (hT : ∀ e ∈ l, TextOK e) (hm : ∀ e ∈ l, e.may = true) (hs : Fm.sizes l ≤ 4194304) :
    Calls Tryz.prog 49 #[.agg #[x, y, z, u]] w fun e w' => e = .returned (.string ⟨(Fm.mk 10 v t l).text.toArray⟩) ∧ Ext w w' := by
  obtain ⟨b1, c1, b2, c2, b3, c3, rfl, rfl, rfl, rfl, -, -, hvc, htc, hlc, hvs, hts, hls⟩ := ht.form
  simp only [Fm.op, Fm.vars, Fm.terms, Fm.args] at hvc htc hlc hvs hts hls ⊢
  obtain ⟨W, hW⟩ : ∃ W, W = w.alloc (.cells #[.int .i64 10, .slice b1 v.length c1, .slice b2 t.length c2, .slice b3 l.length c3] 29) := ⟨_, rfl⟩
  have hx : Ext w W := by rw [hW]; exact ext_alloc _ _
  have hb : Own W w.heap.size [.int .i64 10, .slice b1 v.length c1, .slice b2 t.length c2, .slice b3 l.length c3] := by rw [hW]; exact own4 w _ _ _ _ _
  obtain ⟨⟨k0, -⟩, ⟨k1, -⟩, ⟨k2, -⟩, ⟨k3, -⟩⟩ := hb.cells4
  have hbl := hb.lt
  clear ht
  have HT := Lib.hid (show (⟨(Fm.mk 10 v t l).text.toArray⟩ : ByteArray) = ⟨(Fm.units true [32, 60, 126, 62, 32] l).toArray⟩ by rw [(Fm.text6 (by decide) (by decide)).1]; rfl)
  have HX := Lib.hid (refJoined_any (c := c3) hT hm hs (IsFms.ext hls hx) (sep := ⟨#[32, 60, 126, 62, 32]⟩) (by decide))
  replace HX := Lib.hid (show Calls Tryz.prog 95 #[.slice b3 l.length c3, .string ⟨#[32, 60, 126, 62, 32]⟩] W fun e w' => e = .returned (.string ⟨(Fm.units true [32, 60, 126, 62, 32] l).toArray⟩) ∧ Ext W w' from HX.out)
  clear hls
  go_enter Tryz.func49, Tryz.ntmps49
  go_upto_region 1 with fail
  rw [← hW]
  clear hW
  go_wp2_with (go_at_call 95; refine (HX.out).mono ?_; rintro e w1 ⟨rfl, hx1⟩)
  go_ret
  exact ⟨by rw [HT.out]; rfl, hx.trans hx1⟩

end Go.Proofs.YtnclgkdpafhogaaGreat
namespace Go.Proofs.YtnclgkdpafhogaaGreat
open Go.ChangeShapes Go.WideShapes Go.ChangeAt Go.RowKit
def Fm.zero : Fm := .mk 0 [] [] []
/-- a formula from tokens on: the formula, the place of the next token or of the first one that can't stand there, the error -/
def readS (l : List Tok) (from' : Int) : Fm × Int × Int :=
  if from' < 0 ∨ (l.length : Int) ≤ from' then (Fm.zero, 0, 230)
  else match rForm (l.drop from'.toNat) with
    | .bad r => (Fm.zero, (badAt l r : Nat), 230)
    | .ok f r => if f.check ≠ 0 then (Fm.zero, from', f.check) else (f, (l.length - r.length : Nat), 0)
def ReadSays (r : Fm × Int × Int) (w : World) (e : Ending) (w' : World) : Prop :=
  (∃ v, e = .returned (.tuple #[v, .int .i64 r.2.1, .int .i64 r.2.2]) ∧ isFm' (fun g => w.heap.size ≤ g) w' v r.1) ∧ Ext w w'
theorem fm_zero {P : Nat → Prop} {w : World} : IsFm P w (.int .i64 0) (.slice none 0 0) (.slice none 0 0) (.slice none 0 0) Fm.zero :=
  IsFm.mk' (v := []) (t := []) (l := []) (by decide) (by decide) (Nat.le_refl _) (Nat.le_refl _) (Nat.le_refl _) strs_nil exs_nil fms_nil
theorem check_range (f : Fm) : f.check = 0 ∨ f.check = 2 ∨ f.check = 3 := by
  unfold Fm.check
  split
  · exact .inr (.inr rfl)
  · split
    · exact .inl rfl
    · exact .inr (.inl rfl)
theorem ReadSays.mk {r : Fm × Int × Int} {w w' : World} {v : Value} {e : Ending} (h1 : e = .returned (.tuple #[v, .int .i64 r.2.1, .int .i64 r.2.2])) (h2 : isFm' (fun g => w.heap.size ≤ g) w' v r.1) (h3 : Ext w w') : ReadSays r w e w' := ⟨⟨v, h1, h2⟩, h3⟩
theorem drop_suf {l : List Tok} {n : Nat} : l.drop n <:+ l := List.drop_suffix n l
end Go.Proofs.YtnclgkdpafhogaaGreat
namespace Go.Proofs.YtnclgkdpafhogaaGreat
open Go.ChangeShapes Go.WideShapes Go.ChangeAt Go.RowKit
theorem vars_take : ∀ (l : List ByteArray) (first : Bool) (k : Nat) (h : k < l.length), varsText first (l.take (k + 1)) = varsText first (l.take k) ++ ((if k = 0 ∧ first = true then [] else [44]) ++ l[k].data.toList)
  | [], _, _, h => by simp at h
  | v :: l, first, 0, _ => by cases first <;> simp [varsText]
  | v :: l, first, k + 1, h => by
    simp only [List.take_succ_cons, varsText, List.getElem_cons_succ, List.append_assoc]
    rw [vars_take l false k (by simpa using h)]
    simp

set_option maxHeartbeats 4000000 in
set_option maxRecDepth 100000 in
theorem text_op11 {P : Nat → Prop} {w : World} {x y z u : Value} {v : List ByteArray} {t : List Ex} {l : List Fm} (ht : IsFm P w x y z u (.mk 11 v t l)) (h1 : l.length = 1) (hv : ∀ s ∈ v, upperS s = true) (hvl : v.length ≤ 4194304) (hT : ∀ e ∈ l, TextOK e) (hm : ∀ e ∈ l, e.may = true) (hs : Fm.sizes l ≤ 4194304) :
    Calls Tryz.prog 49 #[.agg #[x, y, z, u]] w fun e w' => e = .returned (.string ⟨(Fm.mk 11 v t l).text.toArray⟩) ∧ Ext w w' := by
  obtain ⟨b1, c1, b2, c2, b3, c3, rfl, rfl, rfl, rfl, -, -, hvc, htc, hlc, hvs, hts, hls⟩ := ht.form
  simp only [Fm.op, Fm.vars, Fm.terms, Fm.args] at hvc htc hlc hvs hts hls ⊢
  obtain ⟨W, hW⟩ : ∃ W, W = w.alloc (.cells #[.int .i64 11, .slice b1 v.length c1, .slice b2 t.length c2, .slice b3 l.length c3] 29) := ⟨_, rfl⟩
  have hx : Ext w W := by rw [hW]; exact ext_alloc _ _
  have hb : Own W w.heap.size [.int .i64 11, .slice b1 v.length c1, .slice b2 t.length c2, .slice b3 l.length c3] := by rw [hW]; exact own4 w _ _ _ _ _
  obtain ⟨⟨k0, -⟩, ⟨k1, -⟩, ⟨k2, -⟩, ⟨k3, -⟩⟩ := hb.cells4
  have hbl := hb.lt
  clear ht
  match l, h1 with
  | [g], _ =>
  have HT := Lib.hid (show (Fm.mk 11 v t [g]).text = [33, 32, 91] ++ (varsText true v ++ ([93, 32, 58, 32] ++ unitW g.op g.text)) by rw [(Fm.text11 (by decide)).1]; simp only [Fm.units, if_true, List.nil_append, List.append_nil]; rfl)
  have hvt := fun k => vars_len (v.take k) (fun s h => hv s (List.take_subset _ _ h)) true
  have HVT := Lib.hid hvt
  have hlen := g.text_len (hm g (by simp))
  have hul := unitW_len g.op g.text
  have hsz : g.size ≤ 4194304 := by simp only [Fm.sizes] at hs; omega
  have HU := Lib.hid (fun w' (_ : Ext w w') x0 x1 x2 x3 (hi : IsFm P w' x0 x1 x2 x3 g) => unitText_any (hT g (by simp)) (hm g (by simp)) hsz hi)
  generalize hut : unitW g.op g.text = ut at *
  clear hvt hT hut
  simp only [List.length_cons, List.length_nil, Nat.zero_add] at hW k3 hb ⊢
  go_enter Tryz.func49, Tryz.ntmps49
  go_upto_region 1 with fail
  rw [← hW]
  clear hW
  go_wp2_with fail
  go_loopw [3, 4] (fun sv iv wr => ∃ (k : Nat) (sb : ByteArray), k ≤ v.length ∧ iv = .int .i64 k ∧ sv = .string sb ∧ sb = ⟨([33, 32, 91] ++ varsText true (v.take k)).toArray⟩ ∧ Ext W wr) (fun _ i _ => v.length - (intOf i).toNat)
  case atStart => exact ⟨0, _, Nat.zero_le _, rfl, rfl, rfl, Below.refl _ _⟩
  case round =>
    obtain ⟨k, sb, hkk, rfl, rfl, hsb, hxr⟩ := hrel
    have hvk := HVT.out k
    have hvk2 : (v.take k).length ≤ v.length := by rw [List.length_take]; omega
    have hsz2 : sb.size ≤ 3 + 41 * v.length := by rw [hsb, arr_size, List.length_append]; simp only [List.length_cons, List.length_nil]; omega
    have Hsb := Lib.hid hsb; clear hsb
    have d1 := hxr.cell k1
    have d3 := hxr.cell k3
    have hwl : w.heap.size < wr.heap.size := cell_lt d1
    by_cases hlt : k < v.length
    · have hk1 : (k : Int) < v.length := by omega
      have Hst := Lib.hid (vars_take v true k hlt)
      obtain ⟨b', o', rfl, -, g1, g2⟩ := (IsStrs.ext hvs (hx.trans hxr)).look hlt
      have hq2 : sb.size + 1 + v[k].size ≤ 9223372036854775807 := by omega
      have hq1 : sb.size + 1 ≤ 9223372036854775807 := by omega
      have hq0 : sb.size + v[k].size ≤ 9223372036854775807 := by omega
      by_cases hz : k = 0
      · have hzb : decide ((0 : Int) < (k : Nat)) = false := decide_eq_false (by omega)
        have hz2 : ¬ (0 : Int) < (k : Nat) := by omega
        have Hcb := Lib.hid (show (if k = 0 ∧ true = true then [] else [(44 : UInt8)]) = [] by rw [if_pos ⟨hz, rfl⟩])
        clear hz
        go_wp2_with fail
        go_roundw
        case rel => exact ⟨k + 1, _, by omega, by go_num, rfl, by rw [Hsb.out, Hst.out, Hcb.out]; apply ByteArray.ext; simp, hxr⟩
        case measure => simp [intOf]; omega
      · have hzb : decide ((0 : Int) < (k : Nat)) = true := decide_eq_true (by omega)
        have hz2 : (0 : Int) < (k : Nat) := by omega
        have Hcb := Lib.hid (show (if k = 0 ∧ true = true then [] else [(44 : UInt8)]) = [44] by rw [if_neg (fun h => hz h.1)])
        clear hz
        go_wp2_with fail
        go_roundw
        case rel => exact ⟨k + 1, _, by omega, by go_num, rfl, by rw [Hsb.out, Hst.out, Hcb.out]; apply ByteArray.ext; simp, hxr⟩
        case measure => simp [intOf]; omega
    · have hk1 : ¬ (k : Int) < v.length := by omega
      have hke : k = v.length := by omega
      have HS := Lib.hid (show sb = ⟨([33, 32, 91] ++ varsText true v).toArray⟩ by rw [Hsb.out, hke, List.take_length])
      clear hke
      obtain ⟨b', o', a1, d1', a2, d2, a', c', rfl, -, g1, g2, g3, g4, hi⟩ := (IsFms.ext hls (hx.trans hxr)).look (i := 0) (by simp)
      simp only [List.getElem_cons_zero, Nat.zero_mul, Nat.add_zero] at g1 g2 g3 g4 hi
      have HX := Lib.hid (HU.out wr (hx.trans hxr) _ _ _ _ hi)
      have hq2 : sb.size + 4 + ut.length ≤ 9223372036854775807 := by omega
      have hq1 : sb.size + 4 ≤ 9223372036854775807 := by omega
      clear hi hls
      go_wp2_with (go_at_call 94; refine (HX.out).mono ?_; rintro e w1 ⟨rfl, hx1⟩)
      go_ret
      exact ⟨by rw [HT.out, HS.out]; exact congrArg (fun b => Ending.returned (.string b)) (by apply ByteArray.ext; simp), (hx.trans hxr).trans hx1⟩

set_option maxHeartbeats 4000000 in
set_option maxRecDepth 100000 in
theorem text_op12 {P : Nat → Prop} {w : World} {x y z u : Value} {v : List ByteArray} {t : List Ex} {l : List Fm} (ht : IsFm P w x y z u (.mk 12 v t l)) (h1 : l.length = 1) (hv : ∀ s ∈ v, upperS s = true) (hvl : v.length ≤ 4194304) (hT : ∀ e ∈ l, TextOK e) (hm : ∀ e ∈ l, e.may = true) (hs : Fm.sizes l ≤ 4194304) :
    Calls Tryz.prog 49 #[.agg #[x, y, z, u]] w fun e w' => e = .returned (.string ⟨(Fm.mk 12 v t l).text.toArray⟩) ∧ Ext w w' := by
  obtain ⟨b1, c1, b2, c2, b3, c3, rfl, rfl, rfl, rfl, -, -, hvc, htc, hlc, hvs, hts, hls⟩ := ht.form
  simp only [Fm.op, Fm.vars, Fm.terms, Fm.args] at hvc htc hlc hvs hts hls ⊢
  obtain ⟨W, hW⟩ : ∃ W, W = w.alloc (.cells #[.int .i64 12, .slice b1 v.length c1, .slice b2 t.length c2, .slice b3 l.length c3] 29) := ⟨_, rfl⟩
  have hx : Ext w W := by rw [hW]; exact ext_alloc _ _
  have hb : Own W w.heap.size [.int .i64 12, .slice b1 v.length c1, .slice b2 t.length c2, .slice b3 l.length c3] := by rw [hW]; exact own4 w _ _ _ _ _
  obtain ⟨⟨k0, -⟩, ⟨k1, -⟩, ⟨k2, -⟩, ⟨k3, -⟩⟩ := hb.cells4
  have hbl := hb.lt
  clear ht
  match l, h1 with
  | [g], _ =>
  have HT := Lib.hid (show (Fm.mk 12 v t [g]).text = [63, 32, 91] ++ (varsText true v ++ ([93, 32, 58, 32] ++ unitW g.op g.text)) by rw [(Fm.text11 (by decide)).1]; simp only [Fm.units, if_true, List.nil_append, List.append_nil]; rfl)
  have hvt := fun k => vars_len (v.take k) (fun s h => hv s (List.take_subset _ _ h)) true
  have HVT := Lib.hid hvt
  have hlen := g.text_len (hm g (by simp))
  have hul := unitW_len g.op g.text
  have hsz : g.size ≤ 4194304 := by simp only [Fm.sizes] at hs; omega
  have HU := Lib.hid (fun w' (_ : Ext w w') x0 x1 x2 x3 (hi : IsFm P w' x0 x1 x2 x3 g) => unitText_any (hT g (by simp)) (hm g (by simp)) hsz hi)
  generalize hut : unitW g.op g.text = ut at *
  clear hvt hT hut
  simp only [List.length_cons, List.length_nil, Nat.zero_add] at hW k3 hb ⊢
  go_enter Tryz.func49, Tryz.ntmps49
  go_upto_region 1 with fail
  rw [← hW]
  clear hW
  go_wp2_with fail
  go_loopw [3, 4] (fun sv iv wr => ∃ (k : Nat) (sb : ByteArray), k ≤ v.length ∧ iv = .int .i64 k ∧ sv = .string sb ∧ sb = ⟨([63, 32, 91] ++ varsText true (v.take k)).toArray⟩ ∧ Ext W wr) (fun _ i _ => v.length - (intOf i).toNat)
  case atStart => exact ⟨0, _, Nat.zero_le _, rfl, rfl, rfl, Below.refl _ _⟩
  case round =>
    obtain ⟨k, sb, hkk, rfl, rfl, hsb, hxr⟩ := hrel
    have hvk := HVT.out k
    have hvk2 : (v.take k).length ≤ v.length := by rw [List.length_take]; omega
    have hsz2 : sb.size ≤ 3 + 41 * v.length := by rw [hsb, arr_size, List.length_append]; simp only [List.length_cons, List.length_nil]; omega
    have Hsb := Lib.hid hsb; clear hsb
    have d1 := hxr.cell k1
    have d3 := hxr.cell k3
    have hwl : w.heap.size < wr.heap.size := cell_lt d1
    by_cases hlt : k < v.length
    · have hk1 : (k : Int) < v.length := by omega
      have Hst := Lib.hid (vars_take v true k hlt)
      obtain ⟨b', o', rfl, -, g1, g2⟩ := (IsStrs.ext hvs (hx.trans hxr)).look hlt
      have hq2 : sb.size + 1 + v[k].size ≤ 9223372036854775807 := by omega
      have hq1 : sb.size + 1 ≤ 9223372036854775807 := by omega
      have hq0 : sb.size + v[k].size ≤ 9223372036854775807 := by omega
      by_cases hz : k = 0
      · have hzb : decide ((0 : Int) < (k : Nat)) = false := decide_eq_false (by omega)
        have hz2 : ¬ (0 : Int) < (k : Nat) := by omega
        have Hcb := Lib.hid (show (if k = 0 ∧ true = true then [] else [(44 : UInt8)]) = [] by rw [if_pos ⟨hz, rfl⟩])
        clear hz
        go_wp2_with fail
        go_roundw
        case rel => exact ⟨k + 1, _, by omega, by go_num, rfl, by rw [Hsb.out, Hst.out, Hcb.out]; apply ByteArray.ext; simp, hxr⟩
        case measure => simp [intOf]; omega
      · have hzb : decide ((0 : Int) < (k : Nat)) = true := decide_eq_true (by omega)
        have hz2 : (0 : Int) < (k : Nat) := by omega
        have Hcb := Lib.hid (show (if k = 0 ∧ true = true then [] else [(44 : UInt8)]) = [44] by rw [if_neg (fun h => hz h.1)])
        clear hz
        go_wp2_with fail
        go_roundw
        case rel => exact ⟨k + 1, _, by omega, by go_num, rfl, by rw [Hsb.out, Hst.out, Hcb.out]; apply ByteArray.ext; simp, hxr⟩
        case measure => simp [intOf]; omega
    · have hk1 : ¬ (k : Int) < v.length := by omega
      have hke : k = v.length := by omega
      have HS := Lib.hid (show sb = ⟨([63, 32, 91] ++ varsText true v).toArray⟩ by rw [Hsb.out, hke, List.take_length])
      clear hke
      obtain ⟨b', o', a1, d1', a2, d2, a', c', rfl, -, g1, g2, g3, g4, hi⟩ := (IsFms.ext hls (hx.trans hxr)).look (i := 0) (by simp)
      simp only [List.getElem_cons_zero, Nat.zero_mul, Nat.add_zero] at g1 g2 g3 g4 hi
      have HX := Lib.hid (HU.out wr (hx.trans hxr) _ _ _ _ hi)
      have hq2 : sb.size + 4 + ut.length ≤ 9223372036854775807 := by omega
      have hq1 : sb.size + 4 ≤ 9223372036854775807 := by omega
      clear hi hls
      go_wp2_with (go_at_call 94; refine (HX.out).mono ?_; rintro e w1 ⟨rfl, hx1⟩)
      go_ret
      exact ⟨by rw [HT.out, HS.out]; exact congrArg (fun b => Ending.returned (.string b)) (by apply ByteArray.ext; simp), (hx.trans hxr).trans hx1⟩

set_option maxHeartbeats 4000000 in
set_option maxRecDepth 100000 in
theorem text_op4 {P : Nat → Prop} {w : World} {x y z u : Value} {v : List ByteArray} {t : List Ex} {l : List Fm} (ht : IsFm P w x y z u (.mk 4 v t l)) (h1 : t.length = 2) (hm : ∀ x ∈ t, x.may = true) (hs : Ex.sizes t ≤ 4194304) :
    Calls Tryz.prog 49 #[.agg #[x, y, z, u]] w fun e w' => e = .returned (.string ⟨(Fm.mk 4 v t l).text.toArray⟩) ∧ Ext w w' := by
  obtain ⟨b1, c1, b2, c2, b3, c3, rfl, rfl, rfl, rfl, -, -, hvc, htc, hlc, hvs, hts, hls⟩ := ht.form
  simp only [Fm.op, Fm.vars, Fm.terms, Fm.args] at hvc htc hlc hvs hts hls ⊢
  obtain ⟨W, hW⟩ : ∃ W, W = w.alloc (.cells #[.int .i64 4, .slice b1 v.length c1, .slice b2 t.length c2, .slice b3 l.length c3] 29) := ⟨_, rfl⟩
  have hx : Ext w W := by rw [hW]; exact ext_alloc _ _
  have hb : Own W w.heap.size [.int .i64 4, .slice b1 v.length c1, .slice b2 t.length c2, .slice b3 l.length c3] := by rw [hW]; exact own4 w _ _ _ _ _
  obtain ⟨⟨k0, -⟩, ⟨k1, -⟩, ⟨k2, -⟩, ⟨k3, -⟩⟩ := hb.cells4
  have hbl := hb.lt
  clear ht
  match t, h1 with
  | [e1, e2], _ =>
  have HT := Lib.hid (show (⟨(Fm.mk 4 v [e1, e2] l).text.toArray⟩ : ByteArray) = ⟨e1.text.toArray⟩ ++ ⟨#[32, 61, 32]⟩ ++ ⟨e2.text.toArray⟩ by rw [Fm.text4.1]; apply ByteArray.ext; simp [eqText, bEq])
  obtain ⟨b', o', a1, d1, rfl, -, g1, g2, g3, hi1⟩ := (IsExs.ext hts hx).look (i := 0) (by simp)
  obtain ⟨b'', o'', a2, d2, he, -, g4, g5, g6, hi2⟩ := (IsExs.ext hts hx).look (i := 1) (by simp)
  injection he with he; injection he with he1 he2 _
  subst he1; subst he2
  simp only [List.getElem_cons_zero, List.getElem_cons_succ, Nat.zero_mul, Nat.add_zero, Nat.one_mul] at g1 g2 g3 g4 g5 g6 hi1 hi2
  have hl1 := e1.text_len (hm e1 (by simp))
  have hl2 := e2.text_len (hm e2 (by simp))
  have hz1 : e1.size ≤ 4194304 := by simp only [Ex.sizes] at hs; omega
  have hz2 : e2.size ≤ 4194304 := by simp only [Ex.sizes] at hs; omega
  have HX1 := Lib.hid (fun w' (hx : Ext W w') => refExprText_any e1 (hm e1 (by simp)) _ w' _ _ _ (IsEx.ext hi1 hx) hz1)
  have HX2 := Lib.hid (fun w' (hx : Ext W w') => refExprText_any e2 (hm e2 (by simp)) _ w' _ _ _ (IsEx.ext hi2 hx) hz2)
  have hq1 : e1.text.length + 3 ≤ 9223372036854775807 := by omega
  have hq2 : e1.text.length + 3 + e2.text.length ≤ 9223372036854775807 := by omega
  have hq3 : ¬ 9223372036854775807 < e1.text.length + 3 := Nat.not_lt.2 hq1
  have hq4 : ¬ 9223372036854775807 < e1.text.length + 3 + e2.text.length := Nat.not_lt.2 hq2
  clear hi1 hi2 hts hl1 hl2
  simp only [List.length_cons, List.length_nil, Nat.zero_add, Nat.reduceAdd] at hW k2 hb ⊢
  go_enter Tryz.func49, Tryz.ntmps49
  go_upto_region 1 with fail
  rw [← hW]
  clear hW
  go_upto_region 9 with fail
  have hW0 := Below.refl W.heap.size W
  go_region_held3 (fun w' => w'.cell? ⟨w.heap.size, 2, none⟩ = some (.slice (some ⟨b', o', none⟩) 2 c2) ∧ w'.cell? ⟨b', o', none⟩ = some (.bool e1.var) ∧ w'.cell? ⟨b', o' + 1, none⟩ = some (.string e1.name) ∧ w'.cell? ⟨b', o' + 2, none⟩ = some (.slice a1 e1.args.length d1) ∧
      w'.cell? ⟨b', o' + 3, none⟩ = some (.bool e2.var) ∧ w'.cell? ⟨b', o' + 3 + 1, none⟩ = some (.string e2.name) ∧ w'.cell? ⟨b', o' + 3 + 2, none⟩ = some (.slice a2 e2.args.length d2) ∧ Ext W w')
    (((try go_split_ands); refine ⟨?_, ?_, ?_, ?_, ?_, ?_, ?_, ?_⟩ <;> first | (with_reducible assumption) | exact Below.drew (Below.refl _ _) | exact Ext.drew (by assumption) | exact Ext.drew (ext_alloc _ _) | (apply Ext.cell hw'; (with_reducible assumption)) | exact Ext.trans (by assumption) hw' | exact Ext.frozen hw' (by (with_reducible assumption)) (by (with_reducible assumption)) | (go_keep; done)))
    ((go_at_call 93; go_split_ands; first | (with_reducible refine (HX1.out _ (by assumption)).mono ?_; rintro e w' ⟨rfl, hw'⟩) | (with_reducible refine (HX2.out _ (by assumption)).mono ?_; rintro e w' ⟨rfl, hw'⟩)))
  go_split_ands
  go_wp2_with fail
  go_ret
  exact ⟨by rw [HT.out]; rfl, hx.trans (by assumption)⟩

end Go.Proofs.YtnclgkdpafhogaaGreat
namespace Go.Proofs.YtnclgkdpafhogaaGreat
open Go.ChangeShapes Go.WideShapes Go.ChangeAt Go.RowKit
set_option maxHeartbeats 4000000 in
set_option maxRecDepth 100000 in
theorem text_noteq {P : Nat → Prop} {w : World} {x y z u : Value} {v : List ByteArray} {t : List Ex} {l : List Fm} (ht : IsFm P w x y z u (.mk 5 v t l)) {vg : List ByteArray} {tg : List Ex} {lg : List Fm} (h1 : l = [.mk 4 vg tg lg]) (h2 : tg.length = 2) (hm : ∀ x ∈ tg, x.may = true) (hs : Ex.sizes tg ≤ 4194304) :
    Calls Tryz.prog 49 #[.agg #[x, y, z, u]] w fun e w' => e = .returned (.string ⟨(Fm.mk 5 v t l).text.toArray⟩) ∧ Ext w w' := by
  obtain ⟨b1, c1, b2, c2, b3, c3, rfl, rfl, rfl, rfl, -, -, hvc, htc, hlc, hvs, hts, hls⟩ := ht.form
  simp only [Fm.op, Fm.vars, Fm.terms, Fm.args] at hvc htc hlc hvs hts hls ⊢
  obtain ⟨W, hW⟩ : ∃ W, W = w.alloc (.cells #[.int .i64 5, .slice b1 v.length c1, .slice b2 t.length c2, .slice b3 l.length c3] 29) := ⟨_, rfl⟩
  have hx : Ext w W := by rw [hW]; exact ext_alloc _ _
  have hb : Own W w.heap.size [.int .i64 5, .slice b1 v.length c1, .slice b2 t.length c2, .slice b3 l.length c3] := by rw [hW]; exact own4 w _ _ _ _ _
  obtain ⟨⟨k0, -⟩, ⟨k1, -⟩, ⟨k2, -⟩, ⟨k3, -⟩⟩ := hb.cells4
  have hbl := hb.lt
  clear ht
  subst h1
  match tg, h2 with
  | [e1, e2], _ =>
  have HT := Lib.hid (show (⟨(Fm.mk 5 v t [.mk 4 vg [e1, e2] lg]).text.toArray⟩ : ByteArray) = ⟨e1.text.toArray⟩ ++ ⟨#[32, 33, 61, 32]⟩ ++ ⟨e2.text.toArray⟩ by rw [Fm.text5.1, if_pos (show Option.map Fm.op [Fm.mk 4 vg [e1, e2] lg].head? = some 4 from rfl)]; apply ByteArray.ext; simp [eqText, bNe, Fm.terms])
  obtain ⟨gb, go', a1, d1, a2, d2, a3, d3, rfl, -, f0, f1, f2, f3, hg⟩ := (IsFms.ext hls hx).look (i := 0) (by simp)
  obtain ⟨_, _, ta, tc, _, _, -, -, he2, -, -, -, -, -, -, -, hts2, -⟩ := hg.form
  simp only [List.getElem_cons_zero, Nat.zero_mul, Nat.add_zero, Fm.op, Fm.terms, Fm.vars, Fm.args, List.length_cons, List.length_nil, Nat.zero_add, Nat.reduceAdd] at f0 f1 f2 f3 hts2 he2
  injection he2 with he2 _ hee
  subst he2; subst hee
  obtain ⟨b', o', a4, d4, rfl, -, g1, g2, g3, hi1⟩ := hts2.look (i := 0) (by simp)
  obtain ⟨b'', o'', a5, d5, he, -, g4, g5, g6, hi2⟩ := hts2.look (i := 1) (by simp)
  injection he with he; injection he with he1 he2 _
  subst he1; subst he2
  simp only [List.getElem_cons_zero, List.getElem_cons_succ, Nat.zero_mul, Nat.add_zero, Nat.one_mul] at g1 g2 g3 g4 g5 g6 hi1 hi2
  have hl1 := e1.text_len (hm e1 (by simp))
  have hl2 := e2.text_len (hm e2 (by simp))
  have hz1 : e1.size ≤ 4194304 := by simp only [Ex.sizes] at hs; omega
  have hz2 : e2.size ≤ 4194304 := by simp only [Ex.sizes] at hs; omega
  have HX1 := Lib.hid (fun w' (hx : Ext W w') => refExprText_any e1 (hm e1 (by simp)) _ w' _ _ _ (IsEx.ext hi1 hx) hz1)
  have HX2 := Lib.hid (fun w' (hx : Ext W w') => refExprText_any e2 (hm e2 (by simp)) _ w' _ _ _ (IsEx.ext hi2 hx) hz2)
  have hq1 : e1.text.length + 4 ≤ 9223372036854775807 := by omega
  have hq2 : e1.text.length + 4 + e2.text.length ≤ 9223372036854775807 := by omega
  have hq3 : ¬ 9223372036854775807 < e1.text.length + 4 := Nat.not_lt.2 hq1
  have hq4 : ¬ 9223372036854775807 < e1.text.length + 4 + e2.text.length := Nat.not_lt.2 hq2
  clear hi1 hi2 hts hl1 hl2 hg hts2 hls f1 f3
  simp only [List.length_cons, List.length_nil, Nat.zero_add] at hW k3 hb ⊢
  go_enter Tryz.func49, Tryz.ntmps49
  go_upto_region 1 with fail
  rw [← hW]
  clear hW
  go_upto_region 12 with fail
  go_region_held3 (fun w' => w'.cell? ⟨w.heap.size, 3, none⟩ = some (.slice (some ⟨gb, go', none⟩) 1 c3) ∧ w'.cell? ⟨gb, go' + 2, none⟩ = some (.slice (some ⟨b', o', none⟩) 2 d2) ∧ w'.cell? ⟨b', o', none⟩ = some (.bool e1.var) ∧ w'.cell? ⟨b', o' + 1, none⟩ = some (.string e1.name) ∧ w'.cell? ⟨b', o' + 2, none⟩ = some (.slice a4 e1.args.length d4) ∧
      w'.cell? ⟨b', o' + 3, none⟩ = some (.bool e2.var) ∧ w'.cell? ⟨b', o' + 3 + 1, none⟩ = some (.string e2.name) ∧ w'.cell? ⟨b', o' + 3 + 2, none⟩ = some (.slice a5 e2.args.length d5) ∧ Ext W w')
    (((try go_split_ands); refine ⟨?_, ?_, ?_, ?_, ?_, ?_, ?_, ?_, ?_⟩ <;> first | (with_reducible assumption) | exact Below.drew (Below.refl _ _) | exact Ext.drew (by assumption) | exact Ext.drew (ext_alloc _ _) | (apply Ext.cell hw'; (with_reducible assumption)) | exact Ext.trans (by assumption) hw' | exact Ext.frozen hw' (by (with_reducible assumption)) (by (with_reducible assumption)) | (go_keep; done)))
    ((go_at_call 93; go_split_ands; first | (with_reducible refine (HX1.out _ (by assumption)).mono ?_; rintro e w' ⟨rfl, hw'⟩) | (with_reducible refine (HX2.out _ (by assumption)).mono ?_; rintro e w' ⟨rfl, hw'⟩)))
  go_split_ands
  go_wp2_with fail
  go_ret
  exact ⟨by rw [HT.out]; rfl, hx.trans (by assumption)⟩

theorem text_any (f : Fm) : TextOK f := by
  induction f using Fm.ind with
  | h o v t l ih =>
    intro hm hs P w x y z u ht
    simp only [Fm.may, Bool.and_eq_true] at hm
    obtain ⟨hm, hms⟩ := hm
    rw [Fm.mays_all, List.all_eq_true] at hms
    simp only [Fm.size] at hs
    obtain ⟨hv, htm, ht3, hc⟩ := topMay_inv hm
    rcases hc with ⟨ho, rfl, rfl, hn⟩ | ⟨rfl, rfl, h1, hn⟩ | ⟨rfl, rfl, h1, hn⟩ | ⟨rfl, rfl, rfl, hn⟩ | ⟨ho, rfl, rfl, hn⟩ | ⟨ho, rfl, rfl, hn⟩ | ⟨ho, h1, rfl, hn⟩
    · rcases ho with rfl | rfl
      · exact text_op1 ht
      · exact text_op2 ht
    · exact text_op3 ht h1 htm (by omega)
    · exact text_op4 ht h1 htm (by omega)
    · by_cases h4 : l.head?.map Fm.op = some 4
      · match l, hn with
        | [g], _ =>
        have hgm := hms g (by simp)
        obtain ⟨og, vg, tg, lg⟩ := g
        simp only [List.head?_cons, Option.map_some, Option.some.injEq, Fm.op] at h4
        subst h4
        simp only [Fm.may, Bool.and_eq_true] at hgm
        obtain ⟨-, ht', -, hc'⟩ := topMay_inv hgm.1
        exact text_noteq ht rfl (by omega) ht' (by simp only [Fm.sizes, Fm.size] at hs; omega)
      · exact text_not ht hn ih hms (by omega) h4
    · rcases ho with rfl | rfl
      · exact text_op6 ht ih hms (by omega)
      · exact text_op7 ht ih hms (by omega)
    · rcases ho with rfl | rfl | rfl
      · exact text_op8 ht ih hms (by omega)
      · exact text_op9 ht ih hms (by omega)
      · exact text_op10 ht ih hms (by omega)
    · rcases ho with rfl | rfl
      · exact text_op11 ht hn (upperS_of_from hv) (by omega) ih hms (by omega)
      · exact text_op12 ht hn (upperS_of_from hv) (by omega) ih hms (by omega)
/-- a formula's text, or the error -/
def textS (f : Fm) : ByteArray × Int := if f.check ≠ 0 then (⟨#[]⟩, f.check) else (⟨f.text.toArray⟩, 0)
theorem check_may {f : Fm} (h : f.check = 0) : f.may = true := by
  unfold Fm.check at h
  split at h
  · cases h
  · split at h
    · assumption
    · cases h
set_option maxHeartbeats 2000000 in
set_option maxRecDepth 100000 in
theorem refText_any (f : Fm) (hs : f.size ≤ 4194304) (P : Nat → Prop) (w : World) (x y z u : Value) (ht : IsFm P w x y z u f) :
    Calls Tryz.prog 20 #[.agg #[x, y, z, u]] w fun e w' => e = .returned (.tuple #[.string (textS f).1, .int .i64 (textS f).2]) ∧ Ext w w' := by
  have HC := Lib.hid (fun w' (hx : Ext w w') => refCheck_any f P w' x y z u (ht.ext hx) hs)
  have HX := Lib.hid (fun (hm : f.may = true) w' (hx : Ext w w') => text_any f hm hs P w' x y z u (ht.ext hx))
  have hmy := fun h => check_may (f := f) h
  obtain ⟨b1, c1, b2, c2, b3, c3, rfl, rfl, rfl, rfl, -⟩ := ht.form
  clear ht
  obtain ⟨W, hW⟩ : ∃ W, W = w.alloc (.cells #[.int .i64 f.op, .slice b1 f.vars.length c1, .slice b2 f.terms.length c2, .slice b3 f.args.length c3] 29) := ⟨_, rfl⟩
  have hx : Ext w W := by rw [hW]; exact ext_alloc _ _
  have hb : Own W w.heap.size [.int .i64 f.op, .slice b1 f.vars.length c1, .slice b2 f.terms.length c2, .slice b3 f.args.length c3] := by rw [hW]; exact own4 w _ _ _ _ _
  obtain ⟨⟨k0, -⟩, ⟨k1, -⟩, ⟨k2, -⟩, ⟨k3, -⟩⟩ := hb.cells4
  have hbl := hb.lt
  have HE := Lib.hid (show textS f = if f.check ≠ 0 then (⟨#[]⟩, f.check) else (⟨f.text.toArray⟩, 0) from rfl)
  generalize f.check = ck at *
  by_cases h0 : ck = 0
  · subst h0
    replace HE := Lib.hid (HE.out.trans (if_neg (fun h => h rfl)))
    have HX2 := Lib.hid (HX.out (hmy rfl))
    clear HX hmy
    go_enter Tryz.func20, Tryz.ntmps20
    go_wp2_with (first | (rw [← hW]; clear hW; go_at_call 22; refine (HC.out _ hx).mono ?_; rintro e w1 ⟨rfl, hx1⟩; replace k0 := hx1.cell k0; replace k1 := hx1.cell k1; replace k2 := hx1.cell k2; replace k3 := hx1.cell k3) | (go_at_call 49; refine (HX2.out _ (hx.trans hx1)).mono ?_; rintro e w2 ⟨rfl, hx2⟩))
    go_ret2
    rw [HE.out]
    exact ⟨rfl, (hx.trans hx1).trans hx2⟩
  · replace HE := Lib.hid (HE.out.trans (if_pos h0))
    have hq1 : (ck != 0) = true := by rw [bne_iff_ne]; exact h0
    clear h0 HX hmy
    go_enter Tryz.func20, Tryz.ntmps20
    go_wp2_with (rw [← hW]; clear hW; go_at_call 22; refine (HC.out _ hx).mono ?_; rintro e w1 ⟨rfl, hx1⟩)
    go_ret2
    rw [HE.out]
    exact ⟨rfl, hx.trans hx1⟩
end Go.Proofs.YtnclgkdpafhogaaGreat
