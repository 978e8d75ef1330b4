/- The reference's Tokens. Condition: a text of at most 1048576 bytes.
The reference's Cut. Condition: a text of at most 1048576 bytes.
Plain: the tokens of a term's, a formula's text. No condition.
Plain: a reading leaves the last token, if it is an end; a text read as a formula. No condition.
formula.counts, Upper, mayExpr. Condition: at most 4194304 parts.
The reference's table, counted, exprMay, varsMay, narrow. Condition: at most 4194304 parts.
The reference's narrow, May, Check. Condition: at most 4194304 parts.
The reference's May, Check. Condition: at most 4194304 parts.
The reference's Check. Condition: at most 4194304 parts.
The reference's SameExpr. Condition: at most 4194304 parts.
The reference's Same. Condition: at most 4194304 parts. -/
import Derived.Test.YtnclgkdpafhogaaGreatQ9
import Derived.Test.YtnclgkdpafhogaaGreatQ3
import Derived.Deep.Light
import Derived.Test.YtnclgkdpafhogaaGreatQ8
import Derived.Test.YtnclgkdpafhogaaGreatQ1
import Derived.StillTailTactics
namespace Go.Proofs.YtnclgkdpafhogaaGreat
open Go.ChangeShapes Go.WideShapes Go.ChangeAt Go.RowKit
theorem oneKind_some (s : ByteArray) (k : Nat) : 1 ≤ (oneKind s k).1 ∧ (oneKind s k).1 ≤ 6 := by
  unfold oneKind
  repeat' split
  all_goals (simp only; omega)
theorem oneTok_ok {s : ByteArray} (hs : s.size ≤ 1073741824) {k : Nat} (hk : k < s.size) : (oneTok s k).ok := by
  obtain ⟨h1, h2⟩ := oneKind_some s k
  refine ⟨⟨by unfold oneTok; simp only; omega, by unfold oneTok; simp only; omega⟩, ?_, by unfold oneTok; simp only; omega, by unfold oneTok; simp only; omega⟩
  unfold oneTok
  simp only
  split <;> simp <;> omega
theorem endTok_ok {s : ByteArray} (hs : s.size ≤ 1073741824) : (endTok s).ok := ⟨by unfold endTok; simp, by unfold endTok; exact Nat.zero_le _, by unfold endTok; simp only; omega, by unfold endTok; simp only; omega⟩
theorem blank_iff (s : ByteArray) (k : Nat) (hk : k < s.size) : blankB s[k] = decide (byt s k = 32 ∨ byt s k = 9 ∨ byt s k = 10 ∨ byt s k = 13) := by
  rw [byt_of hk]; unfold blankB; rw [Bool.eq_iff_iff]; simp; omega
theorem tokDats_len (l : List Tok) : (l.map Tok.dat).length = l.length := by simp
/-- what both hand back: a row of tokens, a place, an error -/
def TokRow (B : Nat) (w : World) (v : Value) (l : List Tok) : Prop := GRow (eltDat 3) 77 B w v (l.map Tok.dat)

set_option maxRecDepth 100000 in
set_option maxHeartbeats 4000000 in
theorem refTokens_any (s : ByteArray) (hs : s.size ≤ 1048576) (w : World) :
    Calls Tryz.prog 88 #[.string s] w fun e w' => (∃ v, e = .returned (.tuple #[v, .int .i64 ((cutFrom s 0).2.1 : Nat), .int .i64 (cutFrom s 0).2.2]) ∧ TokRow w.heap.size w' v (cutFrom s 0).1) ∧ Ext w w' := by
  have hs' : s.size ≤ 1073741824 := by omega
  obtain ⟨i0, hi0, hz0, hz1', hz2'⟩ := info_parts infoTok
  go_enter Tryz.func88, Tryz.ntmps88
  go_wp2_with fail
  go_loopw [2, 3] (fun lv at' wr => ∃ (k : Nat) (pre : List Tok) (va : Option Addr) (vc : Nat), k ≤ s.size ∧ pre.length ≤ k ∧ lv = .slice va pre.length vc ∧ at' = .int .i64 k ∧ TokRow w.heap.size wr (.slice va pre.length vc) pre ∧ cutFrom s 0 = (pre ++ (cutFrom s k).1, (cutFrom s k).2) ∧ Ext w wr) (fun _ i _ => s.size - (intOf i).toNat)
  case atStart => exact ⟨0, [], none, 0, Nat.zero_le _, Nat.le_refl _, rfl, rfl, GRow.nil, by simp, Below.refl _ _⟩
  case round =>
    obtain ⟨k, pre, va, vc, hk, hpk, rfl, rfl, hrow, heq, hext⟩ := hrel
    have HEQ := Lib.hid heq; clear heq
    have HST := Lib.hid (cutFrom_eq hk)
    have HDL := Lib.hid (tokDats_len pre)
    have HROW := Lib.hid hrow; clear hrow
    have hpl : pre.length ≤ 1048576 := by omega
    by_cases hlt : k < s.size
    · have hlt' : decide ((k : Int) < (s.size : Nat)) = true := decide_eq_true (by omega)
      have HB := Lib.hid (fun w => refBlank_any s[k] w)
      rw [blank_iff s k hlt] at HB
      by_cases c1 : byt s k = 32 ∨ byt s k = 9 ∨ byt s k = 10 ∨ byt s k = 13
      · rw [decide_eq_true c1] at HB
        have HC := Lib.hid (show cutStep s k = .skip (k + 1) by unfold cutStep; rw [if_neg (by omega), if_pos c1])
        clear c1
        go_wp2_with (go_at_call 137; refine (HB.out _).mono ?_; rintro e w' ⟨rfl, rfl⟩)
        go_roundw
        case rel => exact ⟨k + 1, pre, va, vc, by omega, by omega, rfl, by go_num, HROW.out, by rw [HEQ.out, HST.out, HC.out], hext⟩
        case measure => simp [intOf]; omega
      rw [show decide (byt s k = 32 ∨ byt s k = 9 ∨ byt s k = 10 ∨ byt s k = 13) = false from decide_eq_false c1] at HB
      have HR := Lib.hid (fun w => refRemark_any s hs' k hlt w)
      have hr1 := remarkEnd_ge s k
      have hr2 := remarkEnd_le hlt
      by_cases c2 : remarkEnd s k ≠ k
      · have HC := Lib.hid (show cutStep s k = .skip (remarkEnd s k) by unfold cutStep; rw [if_neg (by omega), if_neg c1, if_pos c2])
        generalize remarkEnd s k = r at HR hr1 hr2 c2 HC
        have d2 : decide ((k : Int) < (r : Nat)) = true := decide_eq_true (by omega)
        clear c1
        go_wp2_with (first | (go_at_call 137; refine (HB.out _).mono ?_; rintro e w' ⟨rfl, rfl⟩) | (go_at_call 138; refine (HR.out _).mono ?_; rintro e w' ⟨rfl, rfl⟩))
        go_roundw
        case rel => exact ⟨r, pre, va, vc, by omega, by omega, rfl, by go_num, HROW.out, by rw [HEQ.out, HST.out, HC.out], hext⟩
        case measure => simp [intOf]; omega
      have c2' : remarkEnd s k = k := by omega
      rw [c2'] at HR
      have HO := Lib.hid (fun w => refToken_any s hs' k hlt w)
      unfold OneSays at HO
      have he1 := oneEnd_ge s k
      have he2 := oneEnd_le hlt
      have HTOK := Lib.hid (oneTok_ok hs' hlt)
      by_cases c3 : oneEnd s k = k
      · have HC := Lib.hid (show cutStep s k = .bad 220 by unfold cutStep; rw [if_neg (by omega), if_neg c1, if_neg c2, if_pos c3])
        rw [c3] at HO
        clear c1 c2 c2' c3 hr1 hr2 he1 he2
        go_wp2_with (first | (go_at_call 137; refine (HB.out _).mono ?_; rintro e w' ⟨rfl, rfl⟩) | (go_at_call 138; refine (HR.out _).mono ?_; rintro e w' ⟨rfl, rfl⟩) | (go_at_call 139; refine (HO.out _).mono ?_; rintro e w1 ⟨⟨⟨kd, tx, ta⟩, rfl, -⟩, hx1⟩; simp only [Tok.vals]))
        go_ret3
        have he := HEQ.out
        rw [HST.out, HC.out] at he
        refine ⟨⟨_, by rw [he]; rfl, ?_⟩, hext.trans (hx1.trans (ext_alloc _ _))⟩
        rw [he]
        simp only [List.append_nil]
        exact GRow.ext HROW.out (hx1.trans (ext_alloc _ _))
      have HT := Lib.hid (fun t (h : k < oneEnd s k → t = oneTok s k) => h (by omega))
      have hek : k < oneEnd s k := by omega
      have HCC := Lib.hid (show cutStep s k = if (oneTok s k).kind ≠ 6 ∧ 40 < (oneTok s k).text.size then .bad 3 else .tok (oneTok s k) (oneEnd s k) by conv => lhs; unfold cutStep; rw [if_neg (by omega), if_neg c1, if_neg c2, if_neg c3])
      have d3 : (((oneEnd s k : Nat) : Int) == (k : Nat)) = false := by rw [beq_eq_false_iff_ne]; omega
      clear c1 c2 c2' c3 hr1 hr2 he1
      obtain ⟨tk, hot⟩ : ∃ tk, tk = oneTok s k := ⟨_, rfl⟩
      obtain ⟨kd, tx, ta⟩ := tk
      rw [← hot] at HCC HTOK HT HO
      clear hot
      simp only at HCC
      generalize oneEnd s k = r at *
      have hkd : kd ≠ 6 ∧ 40 < tx.size ∨ (kd = 6) ∨ (kd ≠ 6 ∧ ¬ 40 < tx.size) := by omega
      rcases hkd with ⟨k1, k2⟩ | k1 | ⟨k1, k2⟩
      · have HC := Lib.hid (show cutStep s k = .bad 3 by rw [HCC.out, if_pos ⟨k1, k2⟩])
        have q1 : (kd != 6) = true := by rw [bne_iff_ne]; exact k1
        have q2 : decide ((40 : Int) < (tx.size : Nat)) = true := decide_eq_true (by omega)
        clear k1 k2
        go_wp2_with (first | (go_at_call 137; refine (HB.out _).mono ?_; rintro e w' ⟨rfl, rfl⟩) | (go_at_call 138; refine (HR.out _).mono ?_; rintro e w' ⟨rfl, rfl⟩) | (go_at_call 139; refine (HO.out _).mono ?_; rintro e w1 ⟨⟨t, rfl, ht⟩, hx1⟩; obtain rfl := HT.out t ht; clear ht; simp only [Tok.vals]))
        go_ret3
        have he := HEQ.out
        rw [HST.out, HC.out] at he
        refine ⟨⟨_, by rw [he]; rfl, ?_⟩, hext.trans (hx1.trans (ext_alloc _ _))⟩
        rw [he]
        simp only [List.append_nil]
        exact GRow.ext HROW.out (hx1.trans (ext_alloc _ _))
      case' inr.inl =>
        have HC := Lib.hid (show cutStep s k = .tok ⟨kd, tx, ta⟩ r by rw [HCC.out, if_neg (fun h => h.1 k1)])
        have q1 : (kd != 6) = false := by rw [bne_eq_false_iff_eq]; exact k1
        clear k1
      case' inr.inr =>
        have HC := Lib.hid (show cutStep s k = .tok ⟨kd, tx, ta⟩ r by rw [HCC.out, if_neg (fun h => k2 h.2)])
        have q1 : (kd != 6) = true := by rw [bne_iff_ne]; exact k1
        have q2 : decide ((40 : Int) < (tx.size : Nat)) = false := decide_eq_false (by omega)
        clear k1 k2
      all_goals
        go_wp2_with (first | (go_at_call 137; refine (HB.out _).mono ?_; rintro e w' ⟨rfl, rfl⟩) | (go_at_call 138; refine (HR.out _).mono ?_; rintro e w' ⟨rfl, rfl⟩) | (go_at_call 139; refine (HO.out _).mono ?_; rintro e w1 ⟨⟨t, rfl, ht⟩, hx1⟩; obtain rfl := HT.out t ht; clear ht; simp only [Tok.vals]; have hx1a := hx1.trans (ext_alloc w1 (.cells #[.int .i64 kd, .string tx, .int .i64 ta] 77))) | (at_builtin; refine wpList_append_row rfl _ _ _ rfl 77 i0 _ 32 Tryz.underlying22 hi0 hz0 hz1' hz2' rfl (by decide) w.heap.size (.slice va pre.length vc) (pre.map Tok.dat) rfl (w1.alloc (.cells #[.int .i64 kd, .string tx, .int .i64 ta] 77)) (GRow.ext HROW.out hx1a) (ext_alloc _ _) (w1.heap.size + 1) rfl _ _ (by have := heap_alloc_new (w1.alloc (.cells #[.int .i64 kd, .string tx, .int .i64 ta] 77)) (.cells #[.int .i64 kd, .string tx, .int .i64 ta] 77); simpa using this) (Tok.mk kd tx ta).dat (Tok.fs HTOK.out _ _) (by go_light; rw [HDL.out]; simp only [maxLen]; omega) (by go_light; rw [HDL.out]; omega) (by go_light; have := (hext.trans hx1a).size; simp at this ⊢; omega) ?_; intro g2 cap2 w2 hrow2 hgrow2 hat2 hlt2; rw [HDL.out] at hrow2 ⊢; have hx2 := Ext.append' (hext.trans hx1a) (GRow.ext HROW.out hx1a) (Nat.le_refl _) (ext_alloc _ _) hgrow2))
        go_roundw
        case rel =>
          refine ⟨r, pre ++ [⟨kd, tx, ta⟩], some ⟨g2, 0, none⟩, cap2, by omega, by simp; omega, by simp, by go_num, ?_, ?_, hx2⟩
          · unfold TokRow
            simp only [List.map_append, List.map_cons, List.map_nil, List.length_append, List.length_cons, List.length_nil, Nat.zero_add]
            exact hrow2
          · rw [HEQ.out, HST.out, HC.out]; simp
        case measure => simp [intOf]; omega
    · have hlt' : decide ((k : Int) < (s.size : Nat)) = false := decide_eq_false (by omega)
      have HC := Lib.hid (show cutStep s k = .done by unfold cutStep; rw [if_pos (by omega)])
      have HOK := Lib.hid (endTok_ok hs')
      go_wp2_with (at_builtin; refine wpList_append_row rfl _ _ _ rfl 77 i0 _ 32 Tryz.underlying22 hi0 hz0 hz1' hz2' rfl (by decide) w.heap.size (.slice va pre.length vc) (pre.map Tok.dat) rfl wr HROW.out (ext_alloc _ _) wr.heap.size rfl _ _ (heap_alloc_new _ _) (endTok s).dat (Tok.fs HOK.out _ _) (by go_light; rw [HDL.out]; simp only [maxLen]; omega) (by go_light; rw [HDL.out]; omega) (by go_light; have := hext.size; simp; omega) ?_; intro g2 cap2 w2 hrow2 hgrow2 hat2 hlt2; rw [HDL.out] at hrow2 ⊢; have hx2 := Ext.append' hext HROW.out (Nat.le_refl _) (ext_alloc _ _) hgrow2)
      go_ret3
      have he := HEQ.out
      rw [HST.out, HC.out] at he
      refine ⟨⟨_, by rw [he]; rfl, ?_⟩, hx2⟩
      rw [he]
      unfold TokRow
      rw [List.map_append]
      exact hrow2
end Go.Proofs.YtnclgkdpafhogaaGreat
namespace Go.Proofs.YtnclgkdpafhogaaGreat
open Go.ChangeShapes Go.WideShapes Go.ChangeAt Go.RowKit
/-- a text's tokens, or the first fault's place and the error -/
def cutAll (s : ByteArray) : List Tok × Nat × Int := if (cutFrom s 0).2.2 = 0 then ((cutFrom s 0).1, 0, 0) else ([], (cutFrom s 0).2)
def cutS (s : ByteArray) : List Tok × Nat × Int := if 8000 < s.size then ([], 0, 3) else cutAll s
def CutSays (c : List Tok × Nat × Int) (w : World) (e : Ending) (w' : World) : Prop := (∃ v, e = .returned (.tuple #[v, .int .i64 (c.2.1 : Nat), .int .i64 c.2.2]) ∧ TokRow w.heap.size w' v c.1) ∧ Ext w w'
theorem CutSays.mk {c : List Tok × Nat × Int} {w w' : World} {v : Value} {e : Ending} (h1 : e = .returned (.tuple #[v, .int .i64 (c.2.1 : Nat), .int .i64 c.2.2])) (h2 : TokRow w.heap.size w' v c.1) (h3 : Ext w w') : CutSays c w e w' := ⟨⟨v, h1, h2⟩, h3⟩

set_option maxRecDepth 100000 in
set_option maxHeartbeats 2000000 in
theorem refCut_any (s : ByteArray) (hs : s.size ≤ 1048576) (w : World) : Calls Tryz.prog 44 #[.string s] w (CutSays (cutS s) w) := by
  by_cases hl : 8000 < s.size
  · have hd : decide ((8000 : Int) < (s.size : Nat)) = true := decide_eq_true (by omega)
    have HC := Lib.hid (show cutS s = ([], 0, 3) by unfold cutS; rw [if_pos hl])
    rw [HC.out]
    go_enter Tryz.func44, Tryz.ntmps44
    go_wp2_with fail
    go_ret3
    exact CutSays.mk rfl GRow.nil (Below.refl _ _)
  · have hd : decide ((8000 : Int) < (s.size : Nat)) = false := decide_eq_false (by omega)
    have HC := Lib.hid (show cutS s = if (cutFrom s 0).2.2 = 0 then ((cutFrom s 0).1, 0, 0) else ([], (cutFrom s 0).2) by unfold cutS cutAll; rw [if_neg hl])
    have HT := Lib.hid (fun w => refTokens_any s hs w)
    rw [HC.out]
    generalize cutFrom s 0 = c at HT
    obtain ⟨l, at', e⟩ := c
    simp only at HT ⊢
    clear HC
    by_cases he : e = 0
    · subst he
      rw [if_pos rfl]
      have q : ((0 : Int) != 0) = false := rfl
      go_enter Tryz.func44, Tryz.ntmps44
      go_wp2_with (go_at_call 88; refine (HT.out _).mono ?_; rintro e w1 ⟨⟨v, rfl, hv⟩, hx1⟩)
      go_ret3
      exact CutSays.mk rfl hv hx1
    · rw [if_neg he]
      have q : (e != 0) = true := by rw [bne_iff_ne]; exact he
      clear he
      go_enter Tryz.func44, Tryz.ntmps44
      go_wp2_with (go_at_call 88; refine (HT.out _).mono ?_; rintro e w1 ⟨⟨v, rfl, hv⟩, hx1⟩)
      go_ret3
      exact CutSays.mk rfl GRow.nil hx1
end Go.Proofs.YtnclgkdpafhogaaGreat
namespace Go.Proofs.YtnclgkdpafhogaaGreat
def sg (w : List UInt8) : Int × List UInt8 := (6, w)
def nameKT (v : Bool) (n : ByteArray) : Int × List UInt8 := if v then (2, n.data.toList) else if 97 ≤ byt n 0 ∧ byt n 0 ≤ 122 then (1, n.data.toList) else (4, n.data.toList)
mutual
def Ex.toks : Ex → List (Int × List UInt8)
  | .mk v n l => nameKT v n :: (Ex.toksA 40 l ++ (if 0 < l.length then [sg [41]] else []))
def Ex.toksA (c : UInt8) : List Ex → List (Int × List UInt8)
  | [] => []
  | e :: l => sg [c] :: (e.toks ++ Ex.toksA 44 l)
end
def atomKT : List Ex → List (Int × List UInt8)
  | [] => []
  | x :: _ => x.toks
def eqKT (sep : List (Int × List UInt8)) : List Ex → List (Int × List UInt8)
  | x :: y :: _ => x.toks ++ (sep ++ y.toks)
  | _ => []
def signKT (op : Int) : List (Int × List UInt8) := if op = 6 then [sg [38]] else if op = 7 then [sg [124]] else if op = 8 then [sg [61, 62]] else if op = 9 then [sg [60, 61, 62]] else if op = 10 then [sg [60, 126, 62]] else if op = 11 then [sg [33], sg [91]] else [sg [63], sg [91]]
def unitKT (op : Int) (s : List (Int × List UInt8)) : List (Int × List UInt8) := if 6 ≤ op ∧ op ≤ 10 then sg [40] :: (s ++ [sg [41]]) else s
def varsKT : Bool → List ByteArray → List (Int × List UInt8)
  | _, [] => []
  | first, v :: l => (if first then [] else [sg [44]]) ++ ((2, v.data.toList) :: varsKT false l)
mutual
def Fm.toks : Fm → List (Int × List UInt8)
  | .mk op v t l =>
    if op = 1 then [(3, sTrue')]
    else if op = 2 then [(3, sFalse')]
    else if op = 3 then atomKT t
    else if op = 4 then eqKT [sg [61]] t
    else if op = 5 then (if (l.head?.map Fm.op) = some 4 then eqKT [sg [33, 61]] ((l.head?.map Fm.terms).getD []) else sg [126] :: Fm.unitsKT true [] l)
    else if op ≤ 10 then Fm.unitsKT true (signKT op) l
    else signKT op ++ (varsKT true v ++ (sg [93] :: sg [58] :: Fm.unitsKT true [] l))
def Fm.unitsKT (first : Bool) (sep : List (Int × List UInt8)) : List Fm → List (Int × List UInt8)
  | [] => []
  | e :: l => (if first then [] else sep) ++ (unitKT e.op e.toks ++ Fm.unitsKT false sep l)
end
section
variable {l : List UInt8} {ts : List (Int × List UInt8)}
end
theorem topMay_inv {o : Int} {v : List ByteArray} {t : List Ex} {n : Nat} (h : topMay o v t n = true) : varsMay v = true ∧ (∀ x ∈ t, x.may = true) ∧ (o = 3 → ∀ x ∈ t, x.var = false) ∧
    (((o = 1 ∨ o = 2) ∧ v = [] ∧ t = [] ∧ n = 0) ∨ (o = 3 ∧ v = [] ∧ t.length = 1 ∧ n = 0) ∨ (o = 4 ∧ v = [] ∧ t.length = 2 ∧ n = 0) ∨ (o = 5 ∧ v = [] ∧ t = [] ∧ n = 1) ∨ ((o = 6 ∨ o = 7) ∧ v = [] ∧ t = [] ∧ 2 ≤ n) ∨
      ((o = 8 ∨ o = 9 ∨ o = 10) ∧ v = [] ∧ t = [] ∧ n = 2) ∨ ((o = 11 ∨ o = 12) ∧ 1 ≤ v.length ∧ t = [] ∧ n = 1)) := by
  unfold topMay at h
  cases hs : shapeOf o with
  | none => rw [hs] at h; cases h
  | some p =>
    obtain ⟨a, b, c⟩ := p
    rw [hs] at h
    simp only [Bool.and_eq_true, List.all_eq_true, Bool.not_eq_true', Bool.and_eq_false_iff, decide_eq_false_iff_not] at h
    obtain ⟨⟨⟨⟨h1, h2⟩, h3⟩, h4⟩, h5⟩ := h
    refine ⟨h4, fun x hx => (h5 x hx).1, fun ho x hx => by rcases (h5 x hx).2 with h6 | h6; exact absurd ho h6; exact h6, ?_⟩
    unfold counted at h1 h2 h3
    have z : ∀ {α : Type} (l : List α), l.length = 0 → l = [] := fun l h => List.eq_nil_of_length_eq_zero h
    unfold shapeOf at hs
    repeat' (split at hs)
    all_goals first
      | (cases hs; done)
      | (injection hs with hs; injection hs with e1 e2; injection e2 with e2 e3; subst e1; subst e2; subst e3; simp at h1 h2 h3; rename_i ho; simp_all <;> omega)
theorem upperS_of_from : ∀ {l pre : List ByteArray}, varsFrom pre l = true → ∀ v ∈ l, upperS v = true
  | [], _, _, v, hv => by cases hv
  | u :: l, pre, h, v, hv => by
    simp only [varsFrom, Bool.and_eq_true] at h
    rcases List.mem_cons.1 hv with rfl | hv
    · exact h.1.1
    · exact upperS_of_from h.2 v hv
section
variable {o : Int} {v : List ByteArray} {t : List Ex} {l : List Fm}
theorem Fm.text1 : (Fm.mk 1 v t l).text = sTrue' ∧ (Fm.mk 1 v t l).toks = [(3, sTrue')] := ⟨by simp [Fm.text], by simp [Fm.toks]⟩
theorem Fm.text2 : (Fm.mk 2 v t l).text = sFalse' ∧ (Fm.mk 2 v t l).toks = [(3, sFalse')] := ⟨by simp [Fm.text], by simp [Fm.toks]⟩
theorem Fm.text3 : (Fm.mk 3 v t l).text = atomText t ∧ (Fm.mk 3 v t l).toks = atomKT t := ⟨by simp [Fm.text], by simp [Fm.toks]⟩
theorem Fm.text4 : (Fm.mk 4 v t l).text = eqText bEq t ∧ (Fm.mk 4 v t l).toks = eqKT [sg [61]] t := ⟨by simp [Fm.text], by simp [Fm.toks]⟩
theorem Fm.text5 : (Fm.mk 5 v t l).text = (if (l.head?.map Fm.op) = some 4 then eqText bNe ((l.head?.map Fm.terms).getD []) else bNot ++ Fm.units true [] l) ∧
    (Fm.mk 5 v t l).toks = (if (l.head?.map Fm.op) = some 4 then eqKT [sg [33, 61]] ((l.head?.map Fm.terms).getD []) else sg [126] :: Fm.unitsKT true [] l) := ⟨by simp [Fm.text], by simp [Fm.toks]⟩
theorem Fm.text6 (h1 : 6 ≤ o) (h2 : o ≤ 10) : (Fm.mk o v t l).text = Fm.units true (signOf o) l ∧ (Fm.mk o v t l).toks = Fm.unitsKT true (signKT o) l := by
  constructor
  · rw [Fm.text, if_neg (by omega), if_neg (by omega), if_neg (by omega), if_neg (by omega), if_neg (by omega), if_pos (by omega)]
  · rw [Fm.toks, if_neg (by omega), if_neg (by omega), if_neg (by omega), if_neg (by omega), if_neg (by omega), if_pos (by omega)]
theorem Fm.text11 (h1 : 11 ≤ o) : (Fm.mk o v t l).text = signOf o ++ (varsText true v ++ (bOf ++ Fm.units true [] l)) ∧ (Fm.mk o v t l).toks = signKT o ++ (varsKT true v ++ (sg [93] :: sg [58] :: Fm.unitsKT true [] l)) := by
  constructor
  · rw [Fm.text, if_neg (by omega), if_neg (by omega), if_neg (by omega), if_neg (by omega), if_neg (by omega), if_neg (by omega)]
  · rw [Fm.toks, if_neg (by omega), if_neg (by omega), if_neg (by omega), if_neg (by omega), if_neg (by omega), if_neg (by omega)]
end
end Go.Proofs.YtnclgkdpafhogaaGreat
namespace Go.Proofs.YtnclgkdpafhogaaGreat
/-- the last token is an end -/
def Ends (ks : List Tok) : Prop := ∃ p t, ks = p ++ [t] ∧ t.kind = 7
theorem Ends.tail {t : Tok} {r : List Tok} (h : Ends (t :: r)) (ht : t.kind ≠ 7) : Ends r := by
  obtain ⟨p, u, h1, h2⟩ := h
  cases p with
  | nil =>
    simp only [List.nil_append, List.cons.injEq] at h1
    rw [h1.1] at ht; exact absurd h2 ht
  | cons x p =>
    rw [List.cons_append] at h1
    injection h1 with _ h1
    exact ⟨p, u, h1, h2⟩
def Pres {α : Type} (one : List Tok → Rd α) : Prop := ∀ ks x r, Ends ks → one ks = .ok x r → Ends r
theorem takeS_ends {s : ByteArray} {ks r : List Tok} (he : Ends ks) (h : takeS s ks = some r) : Ends r := by
  cases ks with
  | nil => cases h
  | cons t ks =>
    rw [takeS_cons] at h
    split at h
    · rename_i ht
      injection h with h; subst h
      refine he.tail ?_
      unfold Tok.sign at ht
      rw [Bool.and_eq_true, decide_eq_true_eq] at ht
      rw [ht.1]; decide
    · cases h
theorem mustS_pres (s : ByteArray) : Pres (mustS s) := fun ks x r he h => by
  unfold mustS at h
  split at h
  · rename_i h'; injection h with _ h; subst h; exact takeS_ends he h'
  · cases h
theorem kindK_pres {k : Int} (hk : k ≠ 7) : Pres (kindK k) := fun ks x r he h => by
  cases ks with
  | nil => cases h
  | cons t ks =>
    rw [kindK_cons] at h
    split at h
    · rename_i ht; injection h with _ h; subst h; exact he.tail (by rw [ht]; exact hk)
    · cases h
theorem moreF_pres {α : Type} {one : List Tok → Rd α} {sep : ByteArray} (h1 : Pres one) : ∀ f, Pres (moreF one sep f)
  | 0 => fun ks x r he h => by cases h
  | f + 1 => fun ks x r he h => by
    unfold moreF at h
    split at h
    · injection h with _ h; subst h; exact he
    · rename_i r1 ht
      obtain ⟨y, r2, h2, h⟩ := bind_ok h
      obtain ⟨z, h3, -⟩ := map_ok h
      exact moreF_pres h1 f r2 z r (h1 _ _ _ (takeS_ends he ht) h2) h3
theorem more_pres {α : Type} {one : List Tok → Rd α} {sep : ByteArray} (h1 : Pres one) : Pres (more one sep) := fun ks x r he h => moreF_pres h1 _ ks x r he h
theorem rowR_pres {α : Type} {one : List Tok → Rd α} {sep : ByteArray} (h1 : Pres one) : Pres (rowR one sep) := fun ks x r he h => by
  unfold rowR at h
  obtain ⟨y, r2, h2, h⟩ := bind_ok h
  obtain ⟨z, h3, -⟩ := map_ok h
  exact more_pres h1 r2 z r (h1 _ _ _ he h2) h3
theorem named_kind {t : Tok} (h : t.named = true) : t.kind ≠ 7 := fun h7 => by
  unfold Tok.named at h; rw [h7] at h; simp at h
theorem termStep_pres {one : List Tok → Rd Ex} (h1 : Pres one) : Pres (termStep one) := fun ks x r he h => by
  cases ks with
  | nil => cases h
  | cons t ks =>
    rw [termStep_cons] at h
    split at h
    · rename_i h2; injection h with _ h; subst h; exact he.tail (by rw [h2]; decide)
    · split at h
      · rename_i hn
        have he2 := he.tail (named_kind hn)
        split at h
        · injection h with _ h; subst h; exact he2
        · rename_i r1 ht
          obtain ⟨y, r2, h2, h⟩ := bind_ok h
          obtain ⟨z, h3, -⟩ := map_ok h
          exact mustS_pres _ _ _ _ (rowR_pres h1 _ _ _ (takeS_ends he2 ht) h2) h3
      · cases h
theorem rTermF_pres : ∀ f, Pres (rTermF f)
  | 0 => fun ks x r he h => by cases h
  | f + 1 => termStep_pres (rTermF_pres f)
theorem rTerm_pres : Pres rTerm := fun ks x r he h => rTermF_pres _ ks x r he h
theorem rAtomic_pres : Pres rAtomic := fun ks x r he h => by
  have tl : ∀ tx : ByteArray, (ks.head?.map fun t => decide (t.kind = 3) && decide (t.text = tx)) = some true → Ends ks.tail := fun tx ht => by
    cases ks with
    | nil => cases ht
    | cons t ks =>
      simp only [List.head?_cons, Option.map_some, Option.some.injEq, Bool.and_eq_true, decide_eq_true_eq] at ht
      exact he.tail (by rw [ht.1]; decide)
  unfold rAtomic at h
  split at h
  · rename_i ht; injection h with _ h; subst h; exact tl _ ht
  · split at h
    · rename_i ht; injection h with _ h; subst h; exact tl _ ht
    · obtain ⟨y, r2, h2, h⟩ := bind_ok h
      have he2 := rTerm_pres _ _ _ he h2
      split at h
      · rename_i ht
        obtain ⟨z, h3, -⟩ := map_ok h
        exact rTerm_pres _ _ _ (takeS_ends he2 ht) h3
      · split at h
        · rename_i ht
          obtain ⟨z, h3, -⟩ := map_ok h
          exact rTerm_pres _ _ _ (takeS_ends he2 ht) h3
        · split at h
          · cases h
          · injection h with _ h; subst h; exact he2
theorem boundStep_pres {u : List Tok → Rd Fm} (h1 : Pres u) (op : Int) : Pres (boundStep u op) := fun ks x r he h => by
  unfold boundStep at h
  obtain ⟨_, r1, h2, h⟩ := bind_ok h
  obtain ⟨_, r2, h3, h⟩ := bind_ok h
  obtain ⟨_, r3, h4, h⟩ := bind_ok h
  obtain ⟨_, r4, h5, h⟩ := bind_ok h
  obtain ⟨z, h6, -⟩ := map_ok h
  exact h1 _ _ _ (mustS_pres _ _ _ _ (mustS_pres _ _ _ _ (rowR_pres (kindK_pres (by decide)) _ _ _ (mustS_pres _ _ _ _ he h2) h3) h4) h5) h6
theorem behindStep_pres {u : List Tok → Rd Fm} (h1 : Pres u) (f : Fm) : Pres (behindStep u f) := fun ks x r he h => by
  cases ks with
  | nil => injection h with _ h; subst h; exact he
  | cons t ks =>
    rw [behindStep_cons] at h
    split at h
    · injection h with _ h; subst h; exact he
    · rename_i h6
      split at h
      · obtain ⟨z, h3, -⟩ := map_ok h; exact more_pres h1 _ _ _ he h3
      · split at h
        · obtain ⟨z, h3, -⟩ := map_ok h; exact more_pres h1 _ _ _ he h3
        · split at h
          · obtain ⟨z, h3, -⟩ := map_ok h
            exact h1 _ _ _ (he.tail (by have : t.kind = 6 := Classical.not_not.1 h6; rw [this]; decide)) h3
          · injection h with _ h; subst h; exact he
theorem formStep_pres {u : List Tok → Rd Fm} (h1 : Pres u) : Pres (formStep u) := fun ks x r he h => by
  unfold formStep at h
  obtain ⟨y, r2, h2, h⟩ := bind_ok h
  exact behindStep_pres h1 y _ _ _ (h1 _ _ _ he h2) h
theorem unitStep_pres {u : List Tok → Rd Fm} (h1 : Pres u) : Pres (unitStep u) := fun ks x r he h => by
  unfold unitStep at h
  split at h
  · rename_i ht
    obtain ⟨z, h3, -⟩ := map_ok h
    exact h1 _ _ _ (takeS_ends he ht) h3
  · split at h
    · rename_i ht; exact boundStep_pres h1 _ _ _ _ (takeS_ends he ht) h
    · split at h
      · rename_i ht; exact boundStep_pres h1 _ _ _ _ (takeS_ends he ht) h
      · split at h
        · rename_i ht
          obtain ⟨y, r2, h2, h⟩ := bind_ok h
          obtain ⟨z, h3, -⟩ := map_ok h
          exact mustS_pres _ _ _ _ (formStep_pres h1 _ _ _ (takeS_ends he ht) h2) h3
        · exact rAtomic_pres _ _ _ he h
theorem rUnitF_pres : ∀ f, Pres (rUnitF f)
  | 0 => fun ks x r he h => by cases h
  | f + 1 => unitStep_pres (rUnitF_pres f)
theorem rUnit_pres : Pres rUnit := fun ks x r he h => rUnitF_pres _ ks x r he h
theorem rForm_pres : Pres rForm := fun ks x r he h => formStep_pres rUnit_pres ks x r he h

/-- a text's tokens end with an end -/
theorem cutFrom_ends {s : ByteArray} : ∀ {k : Nat}, k ≤ s.size → (cutFrom s k).2.2 = 0 → Ends (cutFrom s k).1 := by
  suffices h : ∀ n k, n = s.size - k → k ≤ s.size → (cutFrom s k).2.2 = 0 → Ends (cutFrom s k).1 from fun {k} hk h0 => h _ k rfl hk h0
  intro n
  induction n using Nat.strongRecOn with
  | ind n ih =>
    intro k hn hk h0
    rw [cutFrom_eq hk] at h0 ⊢
    cases hc : cutStep s k with
    | done => exact ⟨[], endTok s, rfl, rfl⟩
    | skip k' =>
      rw [hc] at h0
      obtain ⟨h1, h2⟩ := cutStep_skip hc
      exact ih _ (by omega) k' rfl h2 h0
    | bad e =>
      rw [hc] at h0
      unfold cutStep at hc
      have : e = 220 ∨ e = 3 := by
        repeat' (split at hc)
        all_goals first
          | (cases hc; done)
          | (injection hc with hc; exact .inl hc.symm)
          | (injection hc with hc; exact .inr hc.symm)
      simp only at h0
      omega
    | tok t k' =>
      rw [hc] at h0
      obtain ⟨h1, h2, -⟩ := cutStep_tok hc
      obtain ⟨p, u, h3, h4⟩ := ih _ (by omega) k' rfl h2 h0
      exact ⟨t :: p, u, by simp only [h3, List.cons_append], h4⟩
theorem cutFrom_len {s : ByteArray} : ∀ {k : Nat}, k ≤ s.size → (cutFrom s k).1.length ≤ s.size + 1 - k := by
  suffices h : ∀ n k, n = s.size - k → k ≤ s.size → (cutFrom s k).1.length ≤ s.size + 1 - k from fun {k} hk => h _ k rfl hk
  intro n
  induction n using Nat.strongRecOn with
  | ind n ih =>
    intro k hn hk
    rw [cutFrom_eq hk]
    cases hc : cutStep s k with
    | done => simp; omega
    | skip k' =>
      obtain ⟨h1, h2⟩ := cutStep_skip hc
      have := ih _ (by omega) k' rfl h2
      simp only
      omega
    | bad e => simp
    | tok t k' =>
      obtain ⟨h1, h2, -⟩ := cutStep_tok hc
      have := ih _ (by omega) k' rfl h2
      simp only [List.length_cons]
      omega
end Go.Proofs.YtnclgkdpafhogaaGreat
namespace Go.Proofs.YtnclgkdpafhogaaGreat
open Go.ChangeShapes Go.WideShapes Go.ChangeAt Go.RowKit
set_option maxHeartbeats 1000000 in
theorem counts_any (n : Nat) (want : Int) (hn : n ≤ 1073741824) (hw : -1000 ≤ want) (hw' : want ≤ 1000) (w : World) :
    Calls Tryz.prog 99 #[.int .i64 n, .int .i64 want] w fun e w' => e = .returned (.bool (counted n want)) ∧ w = w' := by
  by_cases h1 : (n : Int) = want
  · have q1 : ((n : Int) == want) = true := by rw [beq_iff_eq]; exact h1
    have HR := Lib.hid (show counted n want = true by unfold counted; rw [if_neg (by omega), decide_eq_true h1])
    clear h1
    go_enter Tryz.func99, Tryz.ntmps99
    go_wp2
    go_ret
    exact ⟨ret_bool HR.out.symm, rfl⟩
  have q1 : ((n : Int) == want) = false := by rw [beq_eq_false_iff_ne]; exact h1
  by_cases h2 : want < 0
  · have q2 : decide (want < 0) = true := decide_eq_true h2
    have hneg : IntKind.i64.wrap (-want) = -want := IntWalk.i64_in _ (by omega)
    by_cases h3 : -want ≤ n
    · have q3 : decide (-want ≤ n) = true := decide_eq_true h3
      have HR := Lib.hid (show counted n want = true by unfold counted; rw [if_pos h2, decide_eq_true h3])
      clear h1 h2 h3
      go_enter Tryz.func99, Tryz.ntmps99
      go_wp2
      go_ret
      exact ⟨ret_bool (by rw [HR.out]), rfl⟩
    · have q3 : decide (-want ≤ n) = false := decide_eq_false h3
      have HR := Lib.hid (show counted n want = false by unfold counted; rw [if_pos h2, decide_eq_false h3])
      clear h1 h2 h3
      go_enter Tryz.func99, Tryz.ntmps99
      go_wp2
      go_ret
      exact ⟨ret_bool (by rw [HR.out]), rfl⟩
  · have q2 : decide (want < 0) = false := decide_eq_false h2
    have HR := Lib.hid (show counted n want = false by unfold counted; rw [if_neg h2, decide_eq_false h1])
    clear h1 h2
    go_enter Tryz.func99, Tryz.ntmps99
    go_wp2
    go_ret
    exact ⟨ret_bool (by rw [HR.out]), rfl⟩
set_option maxHeartbeats 1000000 in
theorem upper_any (s : ByteArray) (hs : s.size ≤ 1073741824) (w : World) :
    Calls Tryz.prog 100 #[.string s] w fun e w' => e = .returned (.bool (upperS s)) ∧ w = w' := by
  have HN := Lib.hid (fun w => tokName_any s hs w)
  unfold upperS
  cases hn : named s with
  | false =>
    rw [hn] at HN
    go_enter Tryz.func100, Tryz.ntmps100
    go_wp2_with (go_at_call 69; refine (HN.out _).mono ?_; rintro e w' ⟨rfl, rfl⟩)
    go_ret
    exact ⟨rfl, rfl⟩
  | true =>
    rw [hn] at HN
    have h1 := (named_pos hn).1
    have hi : (0 : Int) < (s.size : Nat) := by omega
    have hi' : 0 < s.size := by omega
    have hb := byt_of hi'
    have hcl := s[0].toNat_lt
    by_cases h65 : 65 ≤ (s[0].toNat : Int)
    · have q1 : decide ((65 : Int) ≤ s[0].toNat) = true := decide_eq_true h65
      by_cases h90 : (s[0].toNat : Int) ≤ 90
      · have q2 : decide ((s[0].toNat : Int) ≤ 90) = true := decide_eq_true h90
        have HR := Lib.hid (show (true && decide (65 ≤ byt s 0 ∧ byt s 0 ≤ 90)) = true by rw [hb, decide_eq_true ⟨h65, h90⟩]; rfl)
        clear hb h65 h90
        go_enter Tryz.func100, Tryz.ntmps100
        go_wp2_with (go_at_call 69; refine (HN.out _).mono ?_; rintro e w' ⟨rfl, rfl⟩)
        go_ret
        exact ⟨ret_bool (by rw [HR.out]), rfl⟩
      · have q2 : decide ((s[0].toNat : Int) ≤ 90) = false := decide_eq_false h90
        have HR := Lib.hid (show (true && decide (65 ≤ byt s 0 ∧ byt s 0 ≤ 90)) = false by rw [hb, decide_eq_false (fun h => h90 h.2)]; rfl)
        clear hb h65 h90
        go_enter Tryz.func100, Tryz.ntmps100
        go_wp2_with (go_at_call 69; refine (HN.out _).mono ?_; rintro e w' ⟨rfl, rfl⟩)
        go_ret
        exact ⟨ret_bool (by rw [HR.out]), rfl⟩
    · have q1 : decide ((65 : Int) ≤ s[0].toNat) = false := decide_eq_false h65
      have HR := Lib.hid (show (true && decide (65 ≤ byt s 0 ∧ byt s 0 ≤ 90)) = false by rw [hb, decide_eq_false (fun h => h65 h.1)]; rfl)
      clear hb h65
      go_enter Tryz.func100, Tryz.ntmps100
      go_wp2_with (go_at_call 69; refine (HN.out _).mono ?_; rintro e w' ⟨rfl, rfl⟩)
      go_ret
      exact ⟨ret_bool (by rw [HR.out]), rfl⟩
set_option maxHeartbeats 1000000 in
theorem refUpper_any (s : ByteArray) (hs : s.size ≤ 1073741824) (w : World) :
    Calls Tryz.prog 144 #[.string s] w fun e w' => e = .returned (.bool (upperS s)) ∧ w = w' := by
  have HN := Lib.hid (fun w => refNameB_any s hs w)
  unfold upperS
  cases hn : named s with
  | false =>
    rw [hn] at HN
    go_enter Tryz.func144, Tryz.ntmps144
    go_wp2_with (go_at_call 72; refine (HN.out _).mono ?_; rintro e w' ⟨rfl, rfl⟩)
    go_ret
    exact ⟨rfl, rfl⟩
  | true =>
    rw [hn] at HN
    have h1 := (named_pos hn).1
    have hi : (0 : Int) < (s.size : Nat) := by omega
    have hi' : 0 < s.size := by omega
    have hb := byt_of hi'
    have hcl := s[0].toNat_lt
    by_cases h65 : 65 ≤ (s[0].toNat : Int)
    · have q1 : decide ((65 : Int) ≤ s[0].toNat) = true := decide_eq_true h65
      by_cases h90 : (s[0].toNat : Int) ≤ 90
      · have q2 : decide ((s[0].toNat : Int) ≤ 90) = true := decide_eq_true h90
        have HR := Lib.hid (show (true && decide (65 ≤ byt s 0 ∧ byt s 0 ≤ 90)) = true by rw [hb, decide_eq_true ⟨h65, h90⟩]; rfl)
        clear hb h65 h90
        go_enter Tryz.func144, Tryz.ntmps144
        go_wp2_with (go_at_call 72; refine (HN.out _).mono ?_; rintro e w' ⟨rfl, rfl⟩)
        go_ret
        exact ⟨ret_bool (by rw [HR.out]), rfl⟩
      · have q2 : decide ((s[0].toNat : Int) ≤ 90) = false := decide_eq_false h90
        have HR := Lib.hid (show (true && decide (65 ≤ byt s 0 ∧ byt s 0 ≤ 90)) = false by rw [hb, decide_eq_false (fun h => h90 h.2)]; rfl)
        clear hb h65 h90
        go_enter Tryz.func144, Tryz.ntmps144
        go_wp2_with (go_at_call 72; refine (HN.out _).mono ?_; rintro e w' ⟨rfl, rfl⟩)
        go_ret
        exact ⟨ret_bool (by rw [HR.out]), rfl⟩
    · have q1 : decide ((65 : Int) ≤ s[0].toNat) = false := decide_eq_false h65
      have HR := Lib.hid (show (true && decide (65 ≤ byt s 0 ∧ byt s 0 ≤ 90)) = false by rw [hb, decide_eq_false (fun h => h65 h.1)]; rfl)
      clear hb h65
      go_enter Tryz.func144, Tryz.ntmps144
      go_wp2_with (go_at_call 72; refine (HN.out _).mono ?_; rintro e w' ⟨rfl, rfl⟩)
      go_ret
      exact ⟨ret_bool (by rw [HR.out]), rfl⟩
/-- a term of a row, by its contract -/
def MayOK (x : Ex) : Prop := ∀ (P : Nat → Prop) (w : World) (a b c : Value), IsEx P w a b c x → Calls Tryz.prog 101 #[.agg #[a, b, c]] w fun e w' => e = .returned (.bool x.may) ∧ Ext w w'
set_option maxHeartbeats 1000000 in
theorem mayFn_any {x : Ex} (hx : MayOK x) {P : Nat → Prop} {w : World} {a b c : Value} (h : IsEx P w a b c x) : Calls Tryz.prog 143 #[.agg #[a, b, c]] w fun e w' => e = .returned (.bool (!x.may)) ∧ Ext w w' := by
  have H := Lib.hid (fun w' (hx' : Ext w w') => hx P w' a b c (h.ext hx'))
  obtain ⟨aa, cc, rfl, rfl, rfl, -⟩ := h.form
  clear hx
  go_enter Tryz.func143, Tryz.ntmps143
  go_wp2_with (go_at_call 101; refine (H.out _ (ext_alloc _ _)).mono ?_; rintro e w' ⟨rfl, hx1⟩)
  go_ret
  exact ⟨rfl, (ext_alloc _ _).trans hx1⟩
set_option maxHeartbeats 2000000 in
theorem mayIndex_any {l : List Ex} (hl : ∀ x ∈ l, MayOK x) (hn : l.length ≤ 1073741824) {P : Nat → Prop} {w : World} {a : Option Addr} {c : Nat} (h : IsExs P w a l) :
    Calls Tryz.prog 178 #[.slice a l.length c, .func (.func 143) #[] #[]] w fun e w' => (∃ k : Int, e = .returned (.int .i64 k) ∧ decide (0 ≤ k) = !(Ex.mays l)) ∧ Ext w w' := by
  have HL := Lib.hid (fun w' k (hk : k < l.length) (P : Nat → Prop) a b c (h : IsEx P w' a b c l[k]) => mayFn_any (hl _ (List.getElem_mem hk)) h)
  clear hl
  go_enter Tryz.func178, Tryz.ntmps178
  go_wp2_with fail
  go_loopw [8] (fun i wr => ∃ k : Nat, k ≤ l.length ∧ i = .int .i64 k ∧ Ext w wr ∧ Ex.mays (l.take k) = true) (fun i _ => l.length - (intOf i).toNat)
  case atStart => exact ⟨0, Nat.zero_le _, rfl, Below.refl _ _, rfl⟩
  case round =>
    obtain ⟨k, hk, rfl, hx, hm⟩ := hrel
    have HM := Lib.hid hm; clear hm
    by_cases hlt : k < l.length
    · obtain ⟨b, o, a', c', rfl, hb, g1, g2, g3, hi⟩ := (h.ext hx).look hlt
      have hlt' : (k : Int) < l.length := by omega
      have HE := Lib.hid (HL.out wr k hlt P _ _ _ hi)
      have hst : Ex.mays (l.take (k + 1)) = (Ex.mays (l.take k) && l[k].may) := by
        rw [Ex.mays_all, Ex.mays_all, List.take_succ_eq_append_getElem hlt, List.all_append]; simp
      have HST := Lib.hid hst; clear hst
      cases hm : l[k].may with
      | true =>
        rw [hm] at HE HST
        have HMK := Lib.hid hm
        clear hm
        go_wp2_with (go_at_call 143; refine (HE.out).mono ?_; rintro e w1 ⟨rfl, hx1⟩)
        go_roundw
        case rel => exact ⟨k + 1, by omega, by go_num, hx.trans hx1, by rw [HST.out, HM.out]; rfl⟩
        case measure => simp [intOf]; omega
      | false =>
        rw [hm] at HE
        have HMK := Lib.hid hm
        clear hm
        go_wp2_with (go_at_call 143; refine (HE.out).mono ?_; rintro e w1 ⟨rfl, hx1⟩)
        go_ret
        refine ⟨⟨k, rfl, ?_⟩, hx.trans hx1⟩
        have h1 : Ex.mays l = false := by
          rw [Ex.mays_all]
          cases h2 : l.all Ex.may with
          | false => rfl
          | true => have := List.all_eq_true.1 h2 l[k] (List.getElem_mem hlt); rw [HMK.out] at this; cases this
        rw [h1, decide_eq_true (by omega)]; rfl
    · have hlt' : ¬ (k : Int) < l.length := by omega
      go_wp2_with fail
      go_ret
      refine ⟨⟨-1, rfl, ?_⟩, hx⟩
      have : k = l.length := by omega
      subst this
      have := HM.out
      rw [List.take_length] at this
      rw [this]; rfl
set_option maxHeartbeats 2000000 in
theorem mayAny_any {l : List Ex} (hl : ∀ x ∈ l, MayOK x) (hn : l.length ≤ 1073741824) {P : Nat → Prop} {w : World} {a : Option Addr} {c : Nat} (h : IsExs P w a l) :
    Calls Tryz.prog 142 #[.slice a l.length c, .func (.func 143) #[] #[]] w fun e w' => e = .returned (.bool (!(Ex.mays l))) ∧ Ext w w' := by
  have H := Lib.hid (mayIndex_any hl hn (c := c) h)
  clear h hl
  go_enter Tryz.func142, Tryz.ntmps142
  go_wp2_with (go_at_call 178; refine (H.out).mono ?_; rintro e w1 ⟨⟨k, rfl, hk⟩, hx1⟩; have HK := Lib.hid hk; clear hk)
  go_ret
  exact ⟨ret_bool HK.out, hx1⟩
set_option maxHeartbeats 2000000 in
theorem mayExpr_any (t : Ex) (hsz : t.size ≤ 4194304) : MayOK t := by
  induction t using Ex.ind with
  | h v nm l ih =>
    intro P w x y z ht
    have hkl := Ex.length_le_sizes l
    simp only [Ex.size] at hsz
    have ih' : ∀ a ∈ l, MayOK a := fun a ha => by
      obtain ⟨i, hi, rfl⟩ := List.getElem_of_mem ha
      exact ih _ ha (by have := Ex.size_le_sizes hi; omega)
    obtain ⟨a, c, rfl, rfl, rfl, hn, hc1, hk⟩ := ht.form
    simp only [Ex.var, Ex.name, Ex.args] at hn hc1 hk ⊢
    have HU := Lib.hid (fun w => upper_any nm hn w)
    have HN := Lib.hid (fun w => tokName_any nm hn w)
    have HA := Lib.hid (fun w' (hx : Ext w w') => mayAny_any ih' (show l.length ≤ 1073741824 by omega) (c := c) (IsExs.ext hk hx))
    clear ih ih' ht hk
    simp only [Ex.may]
    cases v with
    | true =>
      have hp : l.length = 0 ∨ 0 < l.length := by omega
      rcases hp with hp | hp
      · have q1 : ((l.length : Int) == 0) = true := by rw [beq_iff_eq]; omega
        have HD := Lib.hid (show decide (l.length = 0) = true from decide_eq_true hp)
        clear hp
        go_enter Tryz.func101, Tryz.ntmps101
        go_wp2_with (go_at_call 100; refine (HU.out _).mono ?_; rintro e w1 ⟨rfl, rfl⟩)
        go_ret
        exact ⟨ret_bool (by have h0 := of_decide_eq_true HD.out; have h1 : l = [] := List.eq_nil_of_length_eq_zero h0; simp [h1]), ext_alloc _ _⟩
      · have q1 : ((l.length : Int) == 0) = false := by rw [beq_eq_false_iff_ne]; omega
        have HD := Lib.hid (show decide (l.length = 0) = false from decide_eq_false (by omega))
        clear hp
        go_enter Tryz.func101, Tryz.ntmps101
        go_wp2_with fail
        go_ret
        exact ⟨ret_bool (by have h0 := of_decide_eq_false HD.out; have h1 : l ≠ [] := fun h => h0 (by rw [h]; rfl); simp [h1]), ext_alloc _ _⟩
    | false =>
      cases hnm : named nm with
      | false =>
        rw [hnm] at HN
        clear hnm
        go_enter Tryz.func101, Tryz.ntmps101
        go_wp2_with (go_at_call 69; refine (HN.out _).mono ?_; rintro e w1 ⟨rfl, rfl⟩)
        go_ret
        exact ⟨rfl, ext_alloc _ _⟩
      | true =>
        rw [hnm] at HN
        clear hnm
        go_enter Tryz.func101, Tryz.ntmps101
        go_wp2_with (first | (go_at_call 69; refine (HN.out _).mono ?_; rintro e w1 ⟨rfl, rfl⟩) | (go_at_call 142; refine (HA.out _ (ext_alloc _ _)).mono ?_; rintro e w2 ⟨rfl, hx2⟩))
        go_ret
        exact ⟨ret_bool (by simp), (ext_alloc _ _).trans hx2⟩
end Go.Proofs.YtnclgkdpafhogaaGreat
namespace Go.Proofs.YtnclgkdpafhogaaGreat
open Go.ChangeShapes Go.WideShapes Go.ChangeAt Go.RowKit
theorem bytes_ne' {a b : ByteArray} (h : a ≠ b) : (a.toList == b.toList) = false := by
  rw [beq_eq_false_iff_ne]; intro he; apply h; apply ByteArray.ext; apply Array.toList_inj.1
  rw [Go.ByteArray.toList_eq, Go.ByteArray.toList_eq] at he; exact he
theorem bytes_eq' {a b : ByteArray} (h : a = b) : (a.toList == b.toList) = true := by subst h; exact beq_self_eq_true _
theorem shape_out {op : Int} (h : op < 1 ∨ 13 ≤ op) : shapeOf op = none := by
  unfold shapeOf
  repeat' rw [if_neg (by omega)]
def tableVals (op : Int) : Value := .tuple #[.int .i64 ((shapeOf op).getD (0, 0, 0)).1, .int .i64 ((shapeOf op).getD (0, 0, 0)).2.1, .int .i64 ((shapeOf op).getD (0, 0, 0)).2.2, .bool (shapeOf op).isSome]
set_option maxHeartbeats 4000000 in
set_option maxRecDepth 100000 in
theorem table_any (op : Int) (w : World) : Calls Tryz.prog 105 #[.int .i64 op] w fun e w' => e = .returned (tableVals op) ∧ w = w' := by
  by_cases h : op < 1 ∨ 13 ≤ op
  · have HS := Lib.hid (shape_out h)
    have q1 : (op == 1) = false := by rw [beq_eq_false_iff_ne]; omega
    have q2 : (op == 2) = false := by rw [beq_eq_false_iff_ne]; omega
    have q3 : (op == 3) = false := by rw [beq_eq_false_iff_ne]; omega
    have q4 : (op == 4) = false := by rw [beq_eq_false_iff_ne]; omega
    have q5 : (op == 5) = false := by rw [beq_eq_false_iff_ne]; omega
    have q6 : (op == 6) = false := by rw [beq_eq_false_iff_ne]; omega
    have q7 : (op == 7) = false := by rw [beq_eq_false_iff_ne]; omega
    have q8 : (op == 8) = false := by rw [beq_eq_false_iff_ne]; omega
    have q9 : (op == 9) = false := by rw [beq_eq_false_iff_ne]; omega
    have q10 : (op == 10) = false := by rw [beq_eq_false_iff_ne]; omega
    have q11 : (op == 11) = false := by rw [beq_eq_false_iff_ne]; omega
    have q12 : (op == 12) = false := by rw [beq_eq_false_iff_ne]; omega
    clear h
    go_enter Tryz.func105, Tryz.ntmps105
    go_wp2
    exact bodyPost_ret (v := .tuple #[.int .i64 0, .int .i64 0, .int .i64 0, .bool false]) (by simp [results, Tryz.results105, go_sem]) rfl ⟨by unfold tableVals; rw [HS.out]; rfl, rfl⟩
  · have hc : op = 1 ∨ op = 2 ∨ op = 3 ∨ op = 4 ∨ op = 5 ∨ op = 6 ∨ op = 7 ∨ op = 8 ∨ op = 9 ∨ op = 10 ∨ op = 11 ∨ op = 12 := by omega
    clear h
    rcases hc with rfl | rfl | rfl | rfl | rfl | rfl | rfl | rfl | rfl | rfl | rfl | rfl
    · go_enter Tryz.func105, Tryz.ntmps105
      go_wp2
      exact bodyPost_ret (v := .tuple #[.int .i64 0, .int .i64 0, .int .i64 0, .bool true]) (by simp [results, Tryz.results105, go_sem]) rfl ⟨rfl, rfl⟩
    · go_enter Tryz.func105, Tryz.ntmps105
      go_wp2
      exact bodyPost_ret (v := .tuple #[.int .i64 0, .int .i64 0, .int .i64 0, .bool true]) (by simp [results, Tryz.results105, go_sem]) rfl ⟨rfl, rfl⟩
    · go_enter Tryz.func105, Tryz.ntmps105
      go_wp2
      exact bodyPost_ret (v := .tuple #[.int .i64 0, .int .i64 1, .int .i64 0, .bool true]) (by simp [results, Tryz.results105, go_sem]) rfl ⟨rfl, rfl⟩
    · go_enter Tryz.func105, Tryz.ntmps105
      go_wp2
      exact bodyPost_ret (v := .tuple #[.int .i64 0, .int .i64 2, .int .i64 0, .bool true]) (by simp [results, Tryz.results105, go_sem]) rfl ⟨rfl, rfl⟩
    · go_enter Tryz.func105, Tryz.ntmps105
      go_wp2
      exact bodyPost_ret (v := .tuple #[.int .i64 0, .int .i64 0, .int .i64 1, .bool true]) (by simp [results, Tryz.results105, go_sem]) rfl ⟨rfl, rfl⟩
    · go_enter Tryz.func105, Tryz.ntmps105
      go_wp2
      exact bodyPost_ret (v := .tuple #[.int .i64 0, .int .i64 0, .int .i64 (-2), .bool true]) (by simp [results, Tryz.results105, go_sem]) rfl ⟨rfl, rfl⟩
    · go_enter Tryz.func105, Tryz.ntmps105
      go_wp2
      exact bodyPost_ret (v := .tuple #[.int .i64 0, .int .i64 0, .int .i64 (-2), .bool true]) (by simp [results, Tryz.results105, go_sem]) rfl ⟨rfl, rfl⟩
    · go_enter Tryz.func105, Tryz.ntmps105
      go_wp2
      exact bodyPost_ret (v := .tuple #[.int .i64 0, .int .i64 0, .int .i64 2, .bool true]) (by simp [results, Tryz.results105, go_sem]) rfl ⟨rfl, rfl⟩
    · go_enter Tryz.func105, Tryz.ntmps105
      go_wp2
      exact bodyPost_ret (v := .tuple #[.int .i64 0, .int .i64 0, .int .i64 2, .bool true]) (by simp [results, Tryz.results105, go_sem]) rfl ⟨rfl, rfl⟩
    · go_enter Tryz.func105, Tryz.ntmps105
      go_wp2
      exact bodyPost_ret (v := .tuple #[.int .i64 0, .int .i64 0, .int .i64 2, .bool true]) (by simp [results, Tryz.results105, go_sem]) rfl ⟨rfl, rfl⟩
    · go_enter Tryz.func105, Tryz.ntmps105
      go_wp2
      exact bodyPost_ret (v := .tuple #[.int .i64 (-1), .int .i64 0, .int .i64 1, .bool true]) (by simp [results, Tryz.results105, go_sem]) rfl ⟨rfl, rfl⟩
    · go_enter Tryz.func105, Tryz.ntmps105
      go_wp2
      exact bodyPost_ret (v := .tuple #[.int .i64 (-1), .int .i64 0, .int .i64 1, .bool true]) (by simp [results, Tryz.results105, go_sem]) rfl ⟨rfl, rfl⟩
set_option maxHeartbeats 1000000 in
theorem refCounted_any (n : Nat) (want : Int) (hn : n ≤ 1073741824) (hw : -1000 ≤ want) (hw' : want ≤ 1000) (w : World) :
    Calls Tryz.prog 106 #[.int .i64 n, .int .i64 want] w fun e w' => e = .returned (.bool (counted n want)) ∧ w = w' := by
  by_cases h2 : want < 0
  · have q2 : decide (want < 0) = true := decide_eq_true h2
    have hneg : IntKind.i64.wrap (-want) = -want := IntWalk.i64_in _ (by omega)
    have HR := Lib.hid (show counted n want = decide (-want ≤ n) by unfold counted; rw [if_pos h2])
    go_enter Tryz.func106, Tryz.ntmps106
    go_wp2
    go_ret
    exact ⟨ret_bool HR.out.symm, rfl⟩
  · have q2 : decide (want < 0) = false := decide_eq_false h2
    have HR := Lib.hid (show counted n want = decide ((n : Int) = want) by unfold counted; rw [if_neg h2])
    go_enter Tryz.func106, Tryz.ntmps106
    go_wp2
    go_ret
    exact ⟨ret_bool (by rw [HR.out]; rw [Bool.eq_iff_iff]; simp), rfl⟩
set_option maxHeartbeats 2000000 in
theorem refExprMay_any (t : Ex) : ∀ (P : Nat → Prop) (w : World) (x y z : Value), IsEx P w x y z t → t.size ≤ 4194304 →
    Calls Tryz.prog 108 #[.agg #[x, y, z]] w fun e w' => e = .returned (.bool t.may) ∧ Ext w w' := by
  induction t using Ex.ind with
  | h v nm l ih =>
    intro P w x y z ht hs
    obtain ⟨a, c, rfl, rfl, rfl, hn, hc1, hk⟩ := ht.form
    simp only [Ex.var, Ex.name, Ex.args] at hn hc1 hk ⊢
    simp only [Ex.size] at hs
    have hkl := Ex.length_le_sizes l
    have HU := Lib.hid (fun w => refUpper_any nm hn w)
    have HN := Lib.hid (fun w => refNameB_any nm hn w)
    obtain ⟨W, hW⟩ : ∃ W, W = w.alloc (.cells #[.bool v, .string nm, .slice a l.length c] 73) := ⟨_, rfl⟩
    have hx : Ext w W := by rw [hW]; exact ext_alloc _ _
    obtain ⟨b0, b1, b2⟩ := cells3' w (.bool v) (.string nm) (.slice a l.length c) 73
    rw [← hW] at b0 b1 b2
    simp only [Ex.may]
    cases v with
    | true =>
      have hp : l.length = 0 ∨ 0 < l.length := by omega
      clear hx hk ih ht b0 b1 b2 hW
      rcases hp with hp | hp
      · have q1 : ((l.length : Int) == 0) = true := by rw [beq_iff_eq]; omega
        have HD := Lib.hid hp
        clear hp
        go_enter Tryz.func108, Tryz.ntmps108
        go_wp2_with (go_at_call 144; refine (HU.out _).mono ?_; rintro e w1 ⟨rfl, rfl⟩)
        go_ret
        exact ⟨ret_bool (by have h1 : l = [] := List.eq_nil_of_length_eq_zero HD.out; simp [h1]), ext_alloc _ _⟩
      · have q1 : ((l.length : Int) == 0) = false := by rw [beq_eq_false_iff_ne]; omega
        have HD := Lib.hid hp
        clear hp
        go_enter Tryz.func108, Tryz.ntmps108
        go_wp2_with fail
        go_ret
        exact ⟨ret_bool (by have h1 : l ≠ [] := fun h => by have := HD.out; rw [h] at this; simp at this
                            simp [h1]), ext_alloc _ _⟩
    | false =>
      cases hnm : named nm with
      | false =>
        rw [hnm] at HN
        clear hnm hx hk ih ht b0 b1 b2 hW
        go_enter Tryz.func108, Tryz.ntmps108
        go_wp2_with (go_at_call 72; refine (HN.out _).mono ?_; rintro e w1 ⟨rfl, rfl⟩)
        go_ret
        exact ⟨rfl, ext_alloc _ _⟩
      | true =>
        rw [hnm] at HN
        clear hnm ht
        go_enter Tryz.func108, Tryz.ntmps108
        go_wp2_with (rw [← hW]; clear hW; go_at_call 72; refine (HN.out _).mono ?_; rintro e w1 ⟨rfl, rfl⟩)
        go_loopw [3] (fun i wr => ∃ k : Nat, k ≤ l.length ∧ i = .int .i64 k ∧ Ext W wr ∧ Ex.mays (l.take k) = true) (fun i _ => l.length - (intOf i).toNat)
        case atStart => exact ⟨0, Nat.zero_le _, rfl, Below.refl _ _, rfl⟩
        case round =>
          obtain ⟨k, hkk, rfl, hxr, hm⟩ := hrel
          have HM := Lib.hid hm; clear hm
          replace b2 := hxr.cell b2
          clear b0 b1
          by_cases hlt : k < l.length
          · obtain ⟨b, o, a', c', rfl, hb, g1, g2, g3, hi⟩ := (IsExs.ext hk (hx.trans hxr)).look hlt
            have hlt' : (k : Int) < l.length := by omega
            have HE := Lib.hid (ih _ (List.getElem_mem hlt) P wr _ _ _ hi (by have := Ex.size_le_sizes hlt; omega))
            have hst : Ex.mays (l.take (k + 1)) = (Ex.mays (l.take k) && l[k].may) := by
              rw [Ex.mays_all, Ex.mays_all, List.take_succ_eq_append_getElem hlt, List.all_append]; simp
            have HST := Lib.hid hst
            clear hst ih
            cases hmk : l[k].may with
            | true =>
              rw [hmk] at HE HST
              clear hmk
              go_wp2_with (go_at_call 108; refine (HE.out).mono ?_; rintro e w1 ⟨rfl, hx1⟩)
              go_roundw
              case rel => exact ⟨k + 1, by omega, by go_num, hxr.trans hx1, by rw [HST.out, HM.out]; rfl⟩
              case measure => simp [intOf]; omega
            | false =>
              rw [hmk] at HE
              have HMK := Lib.hid hmk
              clear hmk
              go_wp2_with (go_at_call 108; refine (HE.out).mono ?_; rintro e w1 ⟨rfl, hx1⟩)
              go_ret
              have h1 : Ex.mays l = false := by
                rw [Ex.mays_all]
                cases h2 : l.all Ex.may with
                | false => rfl
                | true => have := List.all_eq_true.1 h2 l[k] (List.getElem_mem hlt); rw [HMK.out] at this; cases this
              exact ⟨ret_bool (by rw [h1]), hx.trans (hxr.trans hx1)⟩
          · have hlt' : ¬ (k : Int) < l.length := by omega
            go_wp2_with fail
            go_ret
            have : k = l.length := by omega
            subst this
            have h1 := HM.out
            rw [List.take_length] at h1
            exact ⟨ret_bool (by rw [h1]), hx.trans hxr⟩
set_option maxHeartbeats 4000000 in
set_option maxRecDepth 100000 in
theorem refVarsMay_any (l : List ByteArray) (hl : l.length ≤ 1073741824) (P : Nat → Prop) (w : World) (a : Option Addr) (c : Nat) (h : IsStrs P w a l) :
    Calls Tryz.prog 107 #[.slice a l.length c] w fun e w' => e = .returned (.bool (varsMay l)) ∧ Ext w w' := by
  have HS := Lib.hid (show varsMay l = varsFrom (l.take 0) (l.drop 0) by simp [varsMay])
  go_enter Tryz.func107, Tryz.ntmps107
  go_wp2_with fail
  go_loopw [3] (fun i wr => ∃ k : Nat, k ≤ l.length ∧ i = .int .i64 k ∧ Ext w wr ∧ varsMay l = varsFrom (l.take k) (l.drop k)) (fun i _ => l.length - (intOf i).toNat)
  case atStart => exact ⟨0, Nat.zero_le _, rfl, Below.refl _ _, HS.out⟩
  case round =>
    obtain ⟨k, hk, rfl, hx, hv⟩ := hrel
    have HV := Lib.hid hv
    clear hv HS
    by_cases hlt : k < l.length
    · obtain ⟨b, o, rfl, hb, g1, hsz⟩ := IsStrs.look (h.ext hx) hlt
      have hlt' : (k : Int) < l.length := by omega
      have HU := Lib.hid (fun w => refUpper_any l[k] hsz w)
      have HST := Lib.hid (varsFrom_step hlt)
      cases hu : upperS l[k] with
      | false =>
        rw [hu] at HU HST
        clear hu
        go_wp2_with (go_at_call 144; refine (HU.out _).mono ?_; rintro e w1 ⟨rfl, rfl⟩)
        go_ret
        exact ⟨ret_bool (by rw [HV.out, HST.out]; rfl), hx⟩
      | true =>
        rw [hu] at HU HST
        clear hu
        go_wp2_with (go_at_call 144; refine (HU.out _).mono ?_; rintro e w1 ⟨rfl, rfl⟩)
        obtain ⟨wo, rfl⟩ : ∃ wo : World, wo = wr := ⟨_, rfl⟩
        go_loopw [4] (fun i wr => ∃ j : Nat, j ≤ k ∧ i = .int .i64 j ∧ Ext wo wr ∧ ((l.take j).any fun u => decide (u = l[k])) = false) (fun i _ => k - (intOf i).toNat)
        case atStart => exact ⟨0, Nat.zero_le _, rfl, Below.refl _ _, rfl⟩
        case round =>
          obtain ⟨j, hj, rfl, hx2, hany⟩ := hrel
          have HANY := Lib.hid hany
          clear hany
          by_cases hjk : j < k
          · have hjk' : (j : Int) < k := by omega
            have hjl : j < l.length := by omega
            have hjl' : (j : Int) < l.length := by omega
            obtain ⟨b', o', hbo, -, g2, -⟩ := IsStrs.look (h.ext (hx.trans hx2)) hjl
            injection hbo with hbo
            injection hbo with e1 e2 _
            subst e1; subst e2
            replace g1 := hx2.cell g1
            have hst : ((l.take (j + 1)).any fun u => decide (u = l[k])) = (((l.take j).any fun u => decide (u = l[k])) || decide (l[j] = l[k])) := by
              rw [List.take_succ_eq_append_getElem hjl, List.any_append]; simp
            have HST2 := Lib.hid hst
            clear hst
            by_cases heq : l[k] = l[j]
            · have q1 : (l[k].toList == l[j].toList) = true := bytes_eq' heq
              have HEQ := Lib.hid heq
              clear heq
              go_wp2_with fail
              go_quiet (fail)
              go_wp2_with fail
              go_ret
              refine ⟨ret_bool ?_, hx.trans (Ext.drewN hx2 _)⟩
              have h1 : ((l.take k).any fun u => decide (u = l[k])) = true := List.any_eq_true.2 ⟨l[j], List.mem_take_iff_getElem.2 ⟨j, by omega, rfl⟩, by rw [HEQ.out]; simp⟩
              rw [HV.out, HST.out, h1]; rfl
            · have q1 : (l[k].toList == l[j].toList) = false := bytes_ne' heq
              have HEQ := Lib.hid heq
              clear heq
              go_wp2_with fail
              go_quiet (fail)
              go_wp2_with fail
              go_roundw
              case rel => exact ⟨j + 1, by omega, by go_num, Ext.drewN hx2 _, by rw [HST2.out, HANY.out, decide_eq_false (fun h => HEQ.out h.symm)]; rfl⟩
              case measure => simp [intOf]; omega
          · have hjk' : ¬ (j : Int) < k := by omega
            have hj2 : j = k := by omega
            have HJ := Lib.hid hj2
            clear hj2
            go_wp2_with fail
            go_roundw
            case rel =>
              have h1 := HANY.out
              rw [HJ.out] at h1
              exact ⟨k + 1, by omega, by go_num, hx.trans hx2, by rw [HV.out, HST.out, h1]; rfl⟩
            case measure => simp [intOf]; omega
    · have hlt' : ¬ (k : Int) < l.length := by omega
      go_wp2_with fail
      go_ret
      have : k = l.length := by omega
      subst this
      exact ⟨ret_bool (by rw [HV.out, List.drop_length]; rfl), hx⟩
end Go.Proofs.YtnclgkdpafhogaaGreat
namespace Go.Proofs.YtnclgkdpafhogaaGreat
open Go.ChangeShapes Go.WideShapes Go.ChangeAt Go.RowKit
theorem narrowTs_step {t : List Ex} {k : Nat} (h : k < t.length) : narrowTs (t.take (k + 1)) = (narrowTs (t.take k) && (decide (t[k].depth ≤ 30) && decide (t[k].wide ≤ 6))) := by
  unfold narrowTs
  rw [List.take_succ_eq_append_getElem h, List.all_append]; simp
theorem narrowTs_bad {t : List Ex} {k : Nat} (h : k < t.length) (hb : ¬ (t[k].depth ≤ 30 ∧ t[k].wide ≤ 6)) : narrowTs t = false := by
  unfold narrowTs
  cases h2 : t.all fun x => decide (x.depth ≤ 30) && decide (x.wide ≤ 6) with
  | false => rfl
  | true => have := List.all_eq_true.1 h2 t[k] (List.getElem_mem h); simp only [Bool.and_eq_true, decide_eq_true_eq] at this; exact absurd this hb
theorem narrows_step {l : List Fm} {k : Nat} (h : k < l.length) : Fm.narrows (l.take (k + 1)) = (Fm.narrows (l.take k) && l[k].narrow) := by
  rw [Fm.narrows_all, Fm.narrows_all, List.take_succ_eq_append_getElem h, List.all_append]; simp
theorem narrows_bad {l : List Fm} {k : Nat} (h : k < l.length) (hb : l[k].narrow = false) : Fm.narrows l = false := by
  rw [Fm.narrows_all]
  cases h2 : l.all Fm.narrow with
  | false => rfl
  | true => have := List.all_eq_true.1 h2 l[k] (List.getElem_mem h); rw [hb] at this; cases this
theorem mays_step {l : List Fm} {k : Nat} (h : k < l.length) : Fm.mays (l.take (k + 1)) = (Fm.mays (l.take k) && l[k].may) := by
  rw [Fm.mays_all, Fm.mays_all, List.take_succ_eq_append_getElem h, List.all_append]; simp
theorem mays_bad {l : List Fm} {k : Nat} (h : k < l.length) (hb : l[k].may = false) : Fm.mays l = false := by
  rw [Fm.mays_all]
  cases h2 : l.all Fm.may with
  | false => rfl
  | true => have := List.all_eq_true.1 h2 l[k] (List.getElem_mem h); rw [hb] at this; cases this
set_option maxHeartbeats 8000000 in
set_option maxRecDepth 100000 in
theorem narrow_any (t : Fm) : ∀ (P : Nat → Prop) (w : World) (x y z u : Value), IsFm P w x y z u t → t.size ≤ 4194304 →
    Calls Tryz.prog 54 #[.agg #[x, y, z, u]] w fun e w' => e = .returned (.bool t.narrow) ∧ Ext w w' := by
  induction t using Fm.ind with
  | h op v t l ih =>
    intro P w x y z u ht hs
    obtain ⟨va, vc, ta, tc, a, c, rfl, rfl, rfl, rfl, ho1, ho2, hvl, htl, hll, hvs, hts, hls⟩ := ht.form
    simp only [Fm.op, Fm.vars, Fm.terms, Fm.args] at *
    simp only [Fm.size] at hs
    have hkl := Fm.length_le_sizes l
    have hkt := Ex.length_le_sizes t
    obtain ⟨W, hW⟩ : ∃ W, W = w.alloc (.cells #[.int .i64 op, .slice va v.length vc, .slice ta t.length tc, .slice a l.length c] 29) := ⟨_, rfl⟩
    have hx : Ext w W := by rw [hW]; exact ext_alloc _ _
    obtain ⟨b0, b1, b2, b3⟩ := cells4' w (.int .i64 op) (.slice va v.length vc) (.slice ta t.length tc) (.slice a l.length c) 29
    rw [← hW] at b0 b1 b2 b3
    clear b0 b1 hvs ht
    have HN := Lib.hid (show Fm.narrow (.mk op v t l) = (narrowTs t && Fm.narrows l) by simp only [Fm.narrow])
    have HIH := Lib.hid ih
    clear ih
    go_enter Tryz.func54, Tryz.ntmps54
    go_wp2_with fail
    rw [← hW]
    clear hW
    go_loopw [3] (fun i wr => ∃ k : Nat, k ≤ t.length ∧ i = .int .i64 k ∧ Ext W wr ∧ narrowTs (t.take k) = true) (fun i _ => t.length - (intOf i).toNat)
    case atStart => exact ⟨0, Nat.zero_le _, rfl, Below.refl _ _, rfl⟩
    case round =>
      obtain ⟨k, hk, rfl, hxr, hm⟩ := hrel
      have HM := Lib.hid hm; clear hm
      replace b2 := hxr.cell b2
      replace b3 := hxr.cell b3
      by_cases hlt : k < t.length
      · obtain ⟨b, o, a', c', rfl, hb, g1, g2, g3, hi⟩ := (IsExs.ext hts (hx.trans hxr)).look hlt
        have hlt' : (k : Int) < t.length := by omega
        have hsz : t[k].size ≤ 4194304 := by have := Ex.size_le_sizes hlt; omega
        have HE := Lib.hid (refExprDepth_any t[k] P wr _ _ _ hi hsz)
        have HW := Lib.hid (fun w' (hx : Ext wr w') => refWide_any t[k] P w' _ _ _ (hi.ext hx) hsz)
        have HST := Lib.hid (narrowTs_step hlt)
        by_cases hd : t[k].depth ≤ 30
        · have q1 : decide ((30 : Int) < (t[k].depth : Nat)) = false := decide_eq_false (by omega)
          by_cases hw : t[k].wide ≤ 6
          · have q2 : decide ((6 : Int) < (t[k].wide : Nat)) = false := decide_eq_false (by omega)
            go_wp2_with (first | (go_at_call 103; refine (HE.out).mono ?_; rintro e w1 ⟨rfl, hx1⟩; replace b2 := hx1.cell b2; replace g1 := hx1.cell g1; replace g2 := hx1.cell g2; replace g3 := hx1.cell g3) | (go_at_call 104; refine (HW.out _ hx1).mono ?_; rintro e w2 ⟨rfl, hx2⟩))
            go_roundw
            case rel => exact ⟨k + 1, by omega, by go_num, (hxr.trans hx1).trans hx2, by rw [HST.out, HM.out, decide_eq_true hd, decide_eq_true hw]; rfl⟩
            case measure => simp [intOf]; omega
          · have q2 : decide ((6 : Int) < (t[k].wide : Nat)) = true := decide_eq_true (by omega)
            have HB := Lib.hid (narrowTs_bad hlt (fun h => hw h.2))
            clear hd hw
            go_wp2_with (first | (go_at_call 103; refine (HE.out).mono ?_; rintro e w1 ⟨rfl, hx1⟩; replace b2 := hx1.cell b2; replace g1 := hx1.cell g1; replace g2 := hx1.cell g2; replace g3 := hx1.cell g3) | (go_at_call 104; refine (HW.out _ hx1).mono ?_; rintro e w2 ⟨rfl, hx2⟩))
            go_ret
            exact ⟨ret_bool (by rw [HN.out, HB.out]; rfl), hx.trans ((hxr.trans hx1).trans hx2)⟩
        · have q1 : decide ((30 : Int) < (t[k].depth : Nat)) = true := decide_eq_true (by omega)
          have HB := Lib.hid (narrowTs_bad hlt (fun h => hd h.1))
          clear hd
          go_wp2_with (go_at_call 103; refine (HE.out).mono ?_; rintro e w1 ⟨rfl, hx1⟩)
          go_ret
          exact ⟨ret_bool (by rw [HN.out, HB.out]; rfl), hx.trans (hxr.trans hx1)⟩
      · have hlt' : ¬ (k : Int) < t.length := by omega
        have hkt2 : k = t.length := by omega
        have HNT := Lib.hid (show narrowTs t = true by have := HM.out; rwa [hkt2, List.take_length] at this)
        clear hkt2
        go_wp2_with fail
        obtain ⟨wo, rfl⟩ : ∃ wo : World, wo = wr := ⟨_, rfl⟩
        clear b2
        go_loopw [4] (fun i wr => ∃ j : Nat, j ≤ l.length ∧ i = .int .i64 j ∧ Ext wo wr ∧ Fm.narrows (l.take j) = true) (fun i _ => l.length - (intOf i).toNat)
        case atStart => exact ⟨0, Nat.zero_le _, rfl, Below.refl _ _, rfl⟩
        case round =>
          obtain ⟨j, hj, rfl, hxj, hm⟩ := hrel
          have HM2 := Lib.hid hm; clear hm
          replace b3 := hxj.cell b3
          by_cases hltj : j < l.length
          · obtain ⟨b, o, va', vc', ta', tc', a', c', rfl, hb, g1, g2, g3, g4, hi⟩ := (IsFms.ext hls ((hx.trans hxr).trans hxj)).look hltj
            have hltj' : (j : Int) < l.length := by omega
            have HE := Lib.hid (HIH.out _ (List.getElem_mem hltj) P wr _ _ _ _ hi (by have := Fm.size_le_sizes hltj; omega))
            have HST := Lib.hid (narrows_step hltj)
            cases hnn : l[j].narrow with
            | true =>
              rw [hnn] at HE HST
              clear hnn
              go_wp2_with (go_at_call 54; refine (HE.out).mono ?_; rintro e w1 ⟨rfl, hx1⟩)
              go_roundw
              case rel => exact ⟨j + 1, by omega, by go_num, hxj.trans hx1, by rw [HST.out, HM2.out]; rfl⟩
              case measure => simp [intOf]; omega
            | false =>
              rw [hnn] at HE
              have HB := Lib.hid (narrows_bad hltj hnn)
              clear hnn
              go_wp2_with (go_at_call 54; refine (HE.out).mono ?_; rintro e w1 ⟨rfl, hx1⟩)
              go_ret
              exact ⟨ret_bool (by rw [HN.out, HB.out, Bool.and_false]), hx.trans ((hxr.trans hxj).trans hx1)⟩
          · have hltj' : ¬ (j : Int) < l.length := by omega
            have hjl : j = l.length := by omega
            have HNL := Lib.hid (show Fm.narrows l = true by have := HM2.out; rwa [hjl, List.take_length] at this)
            clear hjl
            go_wp2_with fail
            go_ret
            exact ⟨ret_bool (by rw [HN.out, HNT.out, HNL.out]; rfl), hx.trans (hxr.trans hxj)⟩
end Go.Proofs.YtnclgkdpafhogaaGreat
namespace Go.Proofs.YtnclgkdpafhogaaGreat
open Go.ChangeShapes Go.WideShapes Go.ChangeAt Go.RowKit
theorem shape_bounds {op a b c : Int} (h : shapeOf op = some (a, b, c)) : (-1000 ≤ a ∧ a ≤ 1000) ∧ (-1000 ≤ b ∧ b ≤ 1000) ∧ (-1000 ≤ c ∧ c ≤ 1000) := by
  unfold shapeOf at h
  repeat' split at h
  all_goals first
    | (cases h; done)
    | (simp only [Option.some.injEq, Prod.mk.injEq] at h; omega)
/-- may a term stand in a formula of an op? -/
def termOk (op : Int) (x : Ex) : Bool := x.may && !(decide (op = 3) && x.var)
theorem topMay_some {op a b c : Int} {v : List ByteArray} {t : List Ex} {n : Nat} (h : shapeOf op = some (a, b, c)) : topMay op v t n = (counted v.length a && counted t.length b && counted n c && varsMay v && t.all (termOk op)) := by
  unfold topMay; rw [h]; rfl
theorem topMay_none {op : Int} {v : List ByteArray} {t : List Ex} {n : Nat} (h : shapeOf op = none) : topMay op v t n = false := by
  unfold topMay; rw [h]
theorem terms_step {op : Int} {t : List Ex} {k : Nat} (h : k < t.length) : (t.take (k + 1)).all (termOk op) = ((t.take k).all (termOk op) && termOk op t[k]) := by
  rw [List.take_succ_eq_append_getElem h, List.all_append]; simp
theorem terms_bad {op : Int} {t : List Ex} {k : Nat} (h : k < t.length) (hb : termOk op t[k] = false) : t.all (termOk op) = false := by
  cases h2 : t.all (termOk op) with
  | false => rfl
  | true => have := List.all_eq_true.1 h2 t[k] (List.getElem_mem h); rw [hb] at this; cases this
set_option maxHeartbeats 16000000 in
set_option maxRecDepth 100000 in
theorem refMay_any (t : Fm) : ∀ (P : Nat → Prop) (w : World) (x y z u : Value), IsFm P w x y z u t → t.size ≤ 4194304 →
    Calls Tryz.prog 55 #[.agg #[x, y, z, u]] w fun e w' => e = .returned (.bool t.may) ∧ Ext w w' := by
  induction t using Fm.ind with
  | h op v t l ih =>
    intro P w x y z u ht hs
    obtain ⟨va, vc, ta, tc, a, c, rfl, rfl, rfl, rfl, ho1, ho2, hvl, htl, hll, hvs, hts, hls⟩ := ht.form
    simp only [Fm.op, Fm.vars, Fm.terms, Fm.args] at *
    simp only [Fm.size] at hs
    have hkl := Fm.length_le_sizes l
    have hkt := Ex.length_le_sizes t
    obtain ⟨W, hW⟩ : ∃ W, W = w.alloc (.cells #[.int .i64 op, .slice va v.length vc, .slice ta t.length tc, .slice a l.length c] 29) := ⟨_, rfl⟩
    have hx : Ext w W := by rw [hW]; exact ext_alloc _ _
    obtain ⟨b0, b1, b2, b3⟩ := cells4' w (.int .i64 op) (.slice va v.length vc) (.slice ta t.length tc) (.slice a l.length c) 29
    rw [← hW] at b0 b1 b2 b3
    clear ht
    have HN := Lib.hid (show Fm.may (.mk op v t l) = (topMay op v t l.length && Fm.mays l) by simp only [Fm.may])
    have HIH := Lib.hid ih
    have HT := Lib.hid (fun w => table_any op w)
    have HV := Lib.hid (fun w' (hx : Ext w w') => refVarsMay_any v (by omega) P w' va vc (IsStrs.ext hvs hx))
    clear ih hvs
    unfold tableVals at HT
    cases hsh : shapeOf op with
    | none =>
      rw [hsh] at HT
      have HB := Lib.hid (topMay_none (v := v) (t := t) (n := l.length) hsh)
      clear hsh
      simp only [Option.getD_none, Option.isSome_none] at HT
      go_enter Tryz.func55, Tryz.ntmps55
      go_wp2_with (rw [← hW]; clear hW; go_at_call 105; refine (HT.out _).mono ?_; rintro e w1 ⟨rfl, rfl⟩)
      go_ret
      exact ⟨ret_bool (by rw [HN.out, HB.out]; rfl), hx⟩
    | some abc =>
    obtain ⟨sa, sb, sc⟩ := abc
    rw [hsh] at HT
    simp only [Option.getD_some, Option.isSome_some] at HT
    obtain ⟨⟨u1, u2⟩, ⟨u3, u4⟩, ⟨u5, u6⟩⟩ := shape_bounds hsh
    have HTM := Lib.hid (topMay_some (v := v) (t := t) (n := l.length) hsh)
    clear hsh
    have HC1 := Lib.hid (fun w => refCounted_any v.length sa (by omega) u1 u2 w)
    have HC2 := Lib.hid (fun w => refCounted_any t.length sb (by omega) u3 u4 w)
    have HC3 := Lib.hid (fun w => refCounted_any l.length sc (by omega) u5 u6 w)
    clear u1 u2 u3 u4 u5 u6
    cases hc1 : counted v.length sa with
    | false =>
      rw [hc1] at HC1 HTM
      clear hc1
      go_enter Tryz.func55, Tryz.ntmps55
      go_wp2_with (first | (rw [← hW]; clear hW; go_at_call 105; refine (HT.out _).mono ?_; rintro e w1 ⟨rfl, rfl⟩) | (go_at_call 106; with_reducible refine (HC1.out _).mono ?_; rintro e w1 ⟨rfl, rfl⟩))
      go_ret
      exact ⟨ret_bool (by rw [HN.out, HTM.out]; simp), hx⟩
    | true =>
    rw [hc1] at HC1 HTM
    clear hc1
    cases hc2 : counted t.length sb with
    | false =>
      rw [hc2] at HC2 HTM
      clear hc2
      go_enter Tryz.func55, Tryz.ntmps55
      go_wp2_with (first | (rw [← hW]; clear hW; go_at_call 105; refine (HT.out _).mono ?_; rintro e w1 ⟨rfl, rfl⟩) | (go_at_call 106; with_reducible refine (HC1.out _).mono ?_; rintro e w1 ⟨rfl, rfl⟩) | (go_at_call 106; with_reducible refine (HC2.out _).mono ?_; rintro e w1 ⟨rfl, rfl⟩))
      go_ret
      exact ⟨ret_bool (by rw [HN.out, HTM.out]; simp), hx⟩
    | true =>
    rw [hc2] at HC2 HTM
    clear hc2
    cases hc3 : counted l.length sc with
    | false =>
      rw [hc3] at HC3 HTM
      clear hc3
      go_enter Tryz.func55, Tryz.ntmps55
      go_wp2_with (first | (rw [← hW]; clear hW; go_at_call 105; refine (HT.out _).mono ?_; rintro e w1 ⟨rfl, rfl⟩) | (go_at_call 106; with_reducible refine (HC1.out _).mono ?_; rintro e w1 ⟨rfl, rfl⟩) | (go_at_call 106; with_reducible refine (HC2.out _).mono ?_; rintro e w1 ⟨rfl, rfl⟩) | (go_at_call 106; with_reducible refine (HC3.out _).mono ?_; rintro e w1 ⟨rfl, rfl⟩))
      go_ret
      exact ⟨ret_bool (by rw [HN.out, HTM.out]; simp), hx⟩
    | true =>
    rw [hc3] at HC3 HTM
    clear hc3
    cases hc4 : varsMay v with
    | false =>
      rw [hc4] at HV HTM
      clear hc4
      go_enter Tryz.func55, Tryz.ntmps55
      go_wp2_with (first | (rw [← hW]; clear hW; go_at_call 105; refine (HT.out _).mono ?_; rintro e w1 ⟨rfl, rfl⟩) | (go_at_call 106; with_reducible refine (HC1.out _).mono ?_; rintro e w1 ⟨rfl, rfl⟩) | (go_at_call 106; with_reducible refine (HC2.out _).mono ?_; rintro e w1 ⟨rfl, rfl⟩) | (go_at_call 106; with_reducible refine (HC3.out _).mono ?_; rintro e w1 ⟨rfl, rfl⟩) | (go_at_call 107; refine (HV.out _ hx).mono ?_; rintro e wv ⟨rfl, hxv⟩))
      go_ret
      exact ⟨ret_bool (by rw [HN.out, HTM.out]; simp), hx.trans hxv⟩
    | true =>
    rw [hc4] at HV HTM
    clear hc4
    simp only [Bool.true_and] at HTM
    go_enter Tryz.func55, Tryz.ntmps55
    go_wp2_with (first | (rw [← hW]; clear hW; go_at_call 105; refine (HT.out _).mono ?_; rintro e w1 ⟨rfl, rfl⟩) | (go_at_call 106; with_reducible refine (HC1.out _).mono ?_; rintro e w1 ⟨rfl, rfl⟩) | (go_at_call 106; with_reducible refine (HC2.out _).mono ?_; rintro e w1 ⟨rfl, rfl⟩) | (go_at_call 106; with_reducible refine (HC3.out _).mono ?_; rintro e w1 ⟨rfl, rfl⟩) | (go_at_call 107; refine (HV.out _ hx).mono ?_; rintro e wv ⟨rfl, hxv⟩; replace b0 := hxv.cell b0; replace b2 := hxv.cell b2; replace b3 := hxv.cell b3; clear b1))
    have hxx := hx.trans hxv
    clear HT HC1 HC2 HC3 HV
    go_loopw [7] (fun i wr => ∃ k : Nat, k ≤ t.length ∧ i = .int .i64 k ∧ Ext wv wr ∧ (t.take k).all (termOk op) = true) (fun i _ => t.length - (intOf i).toNat)
    case atStart => exact ⟨0, Nat.zero_le _, rfl, Below.refl _ _, rfl⟩
    case round =>
      obtain ⟨k, hk, rfl, hxr, hm⟩ := hrel
      have HM := Lib.hid hm; clear hm
      replace b0 := hxr.cell b0
      replace b2 := hxr.cell b2
      replace b3 := hxr.cell b3
      by_cases hlt : k < t.length
      · obtain ⟨b, o, a', c', rfl, hb, g1, g2, g3, hi⟩ := (IsExs.ext hts (hxx.trans hxr)).look hlt
        have hlt' : (k : Int) < t.length := by omega
        have hsz : t[k].size ≤ 4194304 := by have := Ex.size_le_sizes hlt; omega
        have HE := Lib.hid (refExprMay_any t[k] P wr _ _ _ hi hsz)
        have HST := Lib.hid (terms_step (op := op) hlt)
        have HBD := Lib.hid (terms_bad (op := op) hlt)
        have HTO := Lib.hid (show termOk op t[k] = (t[k].may && !(decide (op = 3) && t[k].var)) from rfl)
        cases hmk : t[k].may with
        | false =>
          rw [hmk] at HE HTO
          have HB := Lib.hid (HBD.out HTO.out)
          clear hmk HBD HTO
          go_wp2_with (go_at_call 108; refine (HE.out).mono ?_; rintro e w1 ⟨rfl, hx1⟩)
          go_ret
          exact ⟨ret_bool (by rw [HN.out, HTM.out, HB.out]; rfl), hxx.trans (hxr.trans hx1)⟩
        | true =>
          rw [hmk] at HE HTO
          clear hmk
          by_cases h3 : op = 3
          · have q3 : (op == 3) = true := by rw [beq_iff_eq]; exact h3
            rw [decide_eq_true h3] at HTO
            clear h3
            cases hvk : t[k].var with
            | true =>
              rw [hvk] at g1 HTO HE
              have HB := Lib.hid (HBD.out HTO.out)
              clear hvk HBD HTO hi
              go_wp2_with (go_at_call 108; refine (HE.out).mono ?_; rintro e w1 ⟨rfl, hx1⟩; replace b0 := hx1.cell b0; replace b2 := hx1.cell b2; replace g1 := hx1.cell g1)
              go_ret
              exact ⟨ret_bool (by rw [HN.out, HTM.out, HB.out]; rfl), hxx.trans (hxr.trans hx1)⟩
            | false =>
              rw [hvk] at g1 HTO HE
              clear hvk HBD hi
              go_wp2_with (go_at_call 108; refine (HE.out).mono ?_; rintro e w1 ⟨rfl, hx1⟩; replace b0 := hx1.cell b0; replace b2 := hx1.cell b2; replace g1 := hx1.cell g1)
              go_roundw
              case rel => exact ⟨k + 1, by omega, by go_num, hxr.trans hx1, by rw [HST.out, HM.out, HTO.out]; rfl⟩
              case measure => simp [intOf]; omega
          · have q3 : (op == 3) = false := by rw [beq_eq_false_iff_ne]; exact h3
            rw [decide_eq_false h3] at HTO
            clear h3 HBD
            go_wp2_with (go_at_call 108; refine (HE.out).mono ?_; rintro e w1 ⟨rfl, hx1⟩; replace b0 := hx1.cell b0; replace b2 := hx1.cell b2; replace g1 := hx1.cell g1)
            go_roundw
            case rel => exact ⟨k + 1, by omega, by go_num, hxr.trans hx1, by rw [HST.out, HM.out, HTO.out]; rfl⟩
            case measure => simp [intOf]; omega
      · have hlt' : ¬ (k : Int) < t.length := by omega
        have hkt2 : k = t.length := by omega
        have HNT := Lib.hid (show t.all (termOk op) = true by have := HM.out; rwa [hkt2, List.take_length] at this)
        clear hkt2
        go_wp2_with fail
        obtain ⟨wo, rfl⟩ : ∃ wo : World, wo = wr := ⟨_, rfl⟩
        clear b2 b0
        go_loopw [8] (fun i wr => ∃ j : Nat, j ≤ l.length ∧ i = .int .i64 j ∧ Ext wo wr ∧ Fm.mays (l.take j) = true) (fun i _ => l.length - (intOf i).toNat)
        case atStart => exact ⟨0, Nat.zero_le _, rfl, Below.refl _ _, rfl⟩
        case round =>
          obtain ⟨j, hj, rfl, hxj, hm⟩ := hrel
          have HM2 := Lib.hid hm; clear hm
          replace b3 := hxj.cell b3
          by_cases hltj : j < l.length
          · obtain ⟨b, o, va', vc', ta', tc', a', c', rfl, hb, g1, g2, g3, g4, hi⟩ := (IsFms.ext hls ((hxx.trans hxr).trans hxj)).look hltj
            have hltj' : (j : Int) < l.length := by omega
            have HE := Lib.hid (HIH.out _ (List.getElem_mem hltj) P wr _ _ _ _ hi (by have := Fm.size_le_sizes hltj; omega))
            have HST := Lib.hid (mays_step hltj)
            cases hnn : l[j].may with
            | true =>
              rw [hnn] at HE HST
              clear hnn
              go_wp2_with (go_at_call 55; refine (HE.out).mono ?_; rintro e w1 ⟨rfl, hx1⟩)
              go_roundw
              case rel => exact ⟨j + 1, by omega, by go_num, hxj.trans hx1, by rw [HST.out, HM2.out]; rfl⟩
              case measure => simp [intOf]; omega
            | false =>
              rw [hnn] at HE
              have HB := Lib.hid (mays_bad hltj hnn)
              clear hnn
              go_wp2_with (go_at_call 55; refine (HE.out).mono ?_; rintro e w1 ⟨rfl, hx1⟩)
              go_ret
              exact ⟨ret_bool (by rw [HN.out, HB.out, Bool.and_false]), hxx.trans ((hxr.trans hxj).trans hx1)⟩
          · have hltj' : ¬ (j : Int) < l.length := by omega
            have hjl : j = l.length := by omega
            have HNL := Lib.hid (show Fm.mays l = true by have := HM2.out; rwa [hjl, List.take_length] at this)
            clear hjl
            go_wp2_with fail
            go_ret
            exact ⟨ret_bool (by rw [HN.out, HTM.out, HNT.out, HNL.out]; rfl), hxx.trans (hxr.trans hxj)⟩
end Go.Proofs.YtnclgkdpafhogaaGreat
namespace Go.Proofs.YtnclgkdpafhogaaGreat
open Go.ChangeShapes Go.WideShapes Go.ChangeAt Go.RowKit
set_option maxHeartbeats 2000000 in
set_option maxRecDepth 100000 in
theorem refCheck_any (t : Fm) (P : Nat → Prop) (w : World) (x y z u : Value) (ht : IsFm P w x y z u t) (hs : t.size ≤ 4194304) :
    Calls Tryz.prog 22 #[.agg #[x, y, z, u]] w fun e w' => e = .returned (.int .i64 t.check) ∧ Ext w w' := by
  have H1 := Lib.hid (fun w' (hx : Ext w w') => refFsize_any t P w' x y z u (ht.ext hx) hs)
  have H2 := Lib.hid (fun w' (hx : Ext w w') => refFdepth_any t P w' x y z u (ht.ext hx) hs)
  have H3 := Lib.hid (fun w' (hx : Ext w w') => narrow_any t P w' x y z u (ht.ext hx) hs)
  have H4 := Lib.hid (fun w' (hx : Ext w w') => refMay_any t P w' x y z u (ht.ext hx) hs)
  obtain ⟨va, vc, ta, tc, a, c, rfl, rfl, rfl, rfl, -⟩ := ht.form
  clear ht
  obtain ⟨W, hW⟩ : ∃ W, W = w.alloc (.cells #[.int .i64 t.op, .slice va t.vars.length vc, .slice ta t.terms.length tc, .slice a t.args.length c] 29) := ⟨_, rfl⟩
  have hx : Ext w W := by rw [hW]; exact ext_alloc _ _
  obtain ⟨c0, c1, c2, c3⟩ := cells4' w (.int .i64 t.op) (.slice va t.vars.length vc) (.slice ta t.terms.length tc) (.slice a t.args.length c) 29
  rw [← hW] at c0 c1 c2 c3
  by_cases h1 : 300 < t.size
  · have q1 : decide ((300 : Int) < (t.size : Nat)) = true := decide_eq_true (by omega)
    have HR := Lib.hid (show t.check = 3 by unfold Fm.check; rw [if_pos (.inl h1)])
    clear h1
    go_enter Tryz.func22, Tryz.ntmps22
    go_wp2_with (rw [← hW]; clear hW; go_at_call 25; refine (H1.out _ hx).mono ?_; rintro e w1 ⟨rfl, hx1⟩; replace c0 := hx1.cell c0; replace c1 := hx1.cell c1; replace c2 := hx1.cell c2; replace c3 := hx1.cell c3)
    go_ret
    exact ⟨ret_int (by rw [HR.out]), hx.trans hx1⟩
  have q1 : decide ((300 : Int) < (t.size : Nat)) = false := decide_eq_false (by omega)
  by_cases h2 : 30 < t.depth
  · have q2 : decide ((30 : Int) < (t.depth : Nat)) = true := decide_eq_true (by omega)
    have HR := Lib.hid (show t.check = 3 by unfold Fm.check; rw [if_pos (.inr (.inl h2))])
    clear h1 h2
    go_enter Tryz.func22, Tryz.ntmps22
    go_wp2_with (first | (rw [← hW]; clear hW; go_at_call 25; refine (H1.out _ hx).mono ?_; rintro e w1 ⟨rfl, hx1⟩; replace c0 := hx1.cell c0; replace c1 := hx1.cell c1; replace c2 := hx1.cell c2; replace c3 := hx1.cell c3) | (go_at_call 45; refine (H2.out _ (hx.trans hx1)).mono ?_; rintro e w2 ⟨rfl, hx2⟩; replace c0 := hx2.cell c0; replace c1 := hx2.cell c1; replace c2 := hx2.cell c2; replace c3 := hx2.cell c3))
    go_ret
    exact ⟨ret_int (by rw [HR.out]), (hx.trans hx1).trans hx2⟩
  have q2 : decide ((30 : Int) < (t.depth : Nat)) = false := decide_eq_false (by omega)
  cases h3 : t.narrow with
  | false =>
    have HR := Lib.hid (show t.check = 3 by unfold Fm.check; rw [if_pos (.inr (.inr h3))])
    rw [h3] at H3
    clear h1 h2 h3
    go_enter Tryz.func22, Tryz.ntmps22
    go_wp2_with (first | (rw [← hW]; clear hW; go_at_call 25; refine (H1.out _ hx).mono ?_; rintro e w1 ⟨rfl, hx1⟩; replace c0 := hx1.cell c0; replace c1 := hx1.cell c1; replace c2 := hx1.cell c2; replace c3 := hx1.cell c3) | (go_at_call 45; refine (H2.out _ (hx.trans hx1)).mono ?_; rintro e w2 ⟨rfl, hx2⟩; replace c0 := hx2.cell c0; replace c1 := hx2.cell c1; replace c2 := hx2.cell c2; replace c3 := hx2.cell c3) | (go_at_call 54; refine (H3.out _ ((hx.trans hx1).trans hx2)).mono ?_; rintro e w3 ⟨rfl, hx3⟩; replace c0 := hx3.cell c0; replace c1 := hx3.cell c1; replace c2 := hx3.cell c2; replace c3 := hx3.cell c3))
    go_ret
    exact ⟨ret_int (by rw [HR.out]), ((hx.trans hx1).trans hx2).trans hx3⟩
  | true =>
    rw [h3] at H3
    have HR := Lib.hid (show t.check = if t.may then 0 else 2 by unfold Fm.check; rw [if_neg (by rintro (h | h | h); exact h1 h; exact h2 h; rw [h3] at h; cases h)])
    clear h1 h2 h3
    cases h4 : t.may with
    | false =>
      rw [h4] at H4 HR
      clear h4
      go_enter Tryz.func22, Tryz.ntmps22
      go_wp2_with (first | (rw [← hW]; clear hW; go_at_call 25; refine (H1.out _ hx).mono ?_; rintro e w1 ⟨rfl, hx1⟩; replace c0 := hx1.cell c0; replace c1 := hx1.cell c1; replace c2 := hx1.cell c2; replace c3 := hx1.cell c3) | (go_at_call 45; refine (H2.out _ (hx.trans hx1)).mono ?_; rintro e w2 ⟨rfl, hx2⟩; replace c0 := hx2.cell c0; replace c1 := hx2.cell c1; replace c2 := hx2.cell c2; replace c3 := hx2.cell c3) | (go_at_call 54; refine (H3.out _ ((hx.trans hx1).trans hx2)).mono ?_; rintro e w3 ⟨rfl, hx3⟩; replace c0 := hx3.cell c0; replace c1 := hx3.cell c1; replace c2 := hx3.cell c2; replace c3 := hx3.cell c3) | (go_at_call 55; refine (H4.out _ (((hx.trans hx1).trans hx2).trans hx3)).mono ?_; rintro e w4 ⟨rfl, hx4⟩))
      go_ret
      exact ⟨ret_int (by rw [HR.out]; rfl), (((hx.trans hx1).trans hx2).trans hx3).trans hx4⟩
    | true =>
      rw [h4] at H4 HR
      clear h4
      go_enter Tryz.func22, Tryz.ntmps22
      go_wp2_with (first | (rw [← hW]; clear hW; go_at_call 25; refine (H1.out _ hx).mono ?_; rintro e w1 ⟨rfl, hx1⟩; replace c0 := hx1.cell c0; replace c1 := hx1.cell c1; replace c2 := hx1.cell c2; replace c3 := hx1.cell c3) | (go_at_call 45; refine (H2.out _ (hx.trans hx1)).mono ?_; rintro e w2 ⟨rfl, hx2⟩; replace c0 := hx2.cell c0; replace c1 := hx2.cell c1; replace c2 := hx2.cell c2; replace c3 := hx2.cell c3) | (go_at_call 54; refine (H3.out _ ((hx.trans hx1).trans hx2)).mono ?_; rintro e w3 ⟨rfl, hx3⟩; replace c0 := hx3.cell c0; replace c1 := hx3.cell c1; replace c2 := hx3.cell c2; replace c3 := hx3.cell c3) | (go_at_call 55; refine (H4.out _ (((hx.trans hx1).trans hx2).trans hx3)).mono ?_; rintro e w4 ⟨rfl, hx4⟩))
      go_ret
      exact ⟨ret_int (by rw [HR.out]; rfl), (((hx.trans hx1).trans hx2).trans hx3).trans hx4⟩
end Go.Proofs.YtnclgkdpafhogaaGreat
namespace Go.Proofs.YtnclgkdpafhogaaGreat
open Go.ChangeShapes Go.WideShapes Go.ChangeAt Go.RowKit
theorem Ex.same_false {a b : Ex} (h : a ≠ b) : Ex.same a b = false := by
  cases hs : Ex.same a b with
  | false => rfl
  | true => exact absurd ((Ex.same_iff a b).1 hs) h
theorem Ex.same_true {a b : Ex} (h : a = b) : Ex.same a b = true := (Ex.same_iff a b).2 h
set_option maxHeartbeats 8000000 in
set_option maxRecDepth 100000 in
theorem refSameExpr_any (t : Ex) : ∀ (u : Ex) (P Q : Nat → Prop) (w : World) (x y z x' y' z' : Value), IsEx P w x y z t → IsEx Q w x' y' z' u → t.size ≤ 4194304 →
    Calls Tryz.prog 42 #[.agg #[x, y, z], .agg #[x', y', z']] w fun e w' => e = .returned (.bool (Ex.same t u)) ∧ Ext w w' := by
  induction t using Ex.ind with
  | h v nm l ih =>
    intro u P Q w x y z x' y' z' ht hu hs
    obtain ⟨v', nm', l'⟩ := u
    obtain ⟨a, c, rfl, rfl, rfl, hn, hc1, hk⟩ := ht.form
    obtain ⟨a', c', rfl, rfl, rfl, hn', hc1', hk'⟩ := hu.form
    simp only [Ex.var, Ex.name, Ex.args] at hn hc1 hk hn' hc1' hk' ⊢
    simp only [Ex.size] at hs
    have hkl := Ex.length_le_sizes l
    have HIH := Lib.hid ih
    clear ih ht hu
    by_cases hv : v = v'
    case neg =>
      have q1 : (v != v') = true := by rw [bne_iff_ne]; exact hv
      have HR := Lib.hid (Ex.same_false (a := .mk v nm l) (b := .mk v' nm' l') (fun h => hv (by injection h)))
      have hvf : (v == v') = false := by rw [beq_eq_false_iff_ne]; exact hv
      go_enter Tryz.func42, Tryz.ntmps42
      go_wp2_with fail
      go_ret
      exact ⟨ret_bool (by rw [HR.out]), (ext_alloc _ _).alloc _⟩
    subst hv
    by_cases hnm : nm = nm'
    case neg =>
      have q2 : (nm.toList == nm'.toList) = false := bytes_ne' hnm
      have HR := Lib.hid (Ex.same_false (a := .mk v nm l) (b := .mk v nm' l') (fun h => hnm (by injection h)))
      clear hnm
      go_enter Tryz.func42, Tryz.ntmps42
      go_wp2_with fail
      go_ret
      exact ⟨ret_bool (by rw [HR.out]), (ext_alloc _ _).alloc _⟩
    subst hnm
    have q2 : (nm.toList == nm.toList) = true := bytes_eq' rfl
    by_cases hll : l.length = l'.length
    case neg =>
      have q3 : ((l.length : Int) != (l'.length : Nat)) = true := by rw [bne_iff_ne]; omega
      have HR := Lib.hid (Ex.same_false (a := .mk v nm l) (b := .mk v nm l') (fun h => hll (by injection h with _ _ h; rw [h])))
      clear hll
      go_enter Tryz.func42, Tryz.ntmps42
      go_wp2_with fail
      go_ret
      exact ⟨ret_bool (by rw [HR.out]), (ext_alloc _ _).alloc _⟩
    have q3 : ((l.length : Int) != (l'.length : Nat)) = false := by rw [bne_eq_false_iff_eq]; omega
    have HLL := Lib.hid hll
    have hle : l.length ≤ l'.length := by omega
    clear hll
    go_enter Tryz.func42, Tryz.ntmps42
    go_wp2_with fail
    obtain ⟨W, hW⟩ : ∃ W, W = (w.alloc (.cells #[.bool v, .string nm, .slice a l.length c] 73)).alloc (.cells #[.bool v, .string nm, .slice a' l'.length c'] 73) := ⟨_, rfl⟩
    have hx : Ext w W := by rw [hW]; exact (ext_alloc _ _).alloc _
    have b2 : W.cell? ⟨w.heap.size, 2, none⟩ = some (.slice a l.length c) := by rw [hW]; exact (ext_alloc _ _).cell (own3 w _ _ _ _ 2 _ rfl).1
    have d2 : W.cell? ⟨w.heap.size + 1, 2, none⟩ = some (.slice a' l'.length c') := by
      rw [hW]
      have := (own3 (w.alloc (.cells #[.bool v, .string nm, .slice a l.length c] 73)) (.bool v) (.string nm) (.slice a' l'.length c') 73 2 _ rfl).1
      rw [World.size_alloc] at this; exact this
    rw [← hW]
    clear hW
    go_loopw [5] (fun i wr => ∃ k : Nat, k ≤ l.length ∧ i = .int .i64 k ∧ Ext W wr ∧ l.take k = l'.take k) (fun i _ => l.length - (intOf i).toNat)
    case atStart => exact ⟨0, Nat.zero_le _, rfl, Below.refl _ _, rfl⟩
    case round =>
      obtain ⟨k, hkk, rfl, hxr, hm⟩ := hrel
      have HM := Lib.hid hm
      clear hm
      replace b2 := hxr.cell b2
      replace d2 := hxr.cell d2
      by_cases hlt : k < l.length
      · obtain ⟨b, o, aa, cc, rfl, hb, g1, g2, g3, hi⟩ := (IsExs.ext hk (hx.trans hxr)).look hlt
        have hlt2 : k < l'.length := by omega
        obtain ⟨bb, oo, aa', cc', rfl, hbb, j1, j2, j3, hi'⟩ := (IsExs.ext hk' (hx.trans hxr)).look hlt2
        have hlt' : (k : Int) < l.length := by omega
        have hlt2' : (k : Int) < l'.length := by omega
        have HE := Lib.hid (fun w' (hx : Ext wr w') => HIH.out _ (List.getElem_mem hlt) l'[k] P Q w' _ _ _ _ _ _ (hi.ext hx) (hi'.ext hx) (by have := Ex.size_le_sizes hlt; omega))
        have HST := Lib.hid (show l.take (k + 1) = l.take k ++ [l[k]] from List.take_succ_eq_append_getElem hlt)
        have HST' := Lib.hid (show l'.take (k + 1) = l'.take k ++ [l'[k]] from List.take_succ_eq_append_getElem hlt2)
        go_wp2_with fail
        go_still_tail 10, (by kernel_rfl)
        change wpList _ _ _ _ _ wr.drew
        by_cases he : l[k] = l'[k]
        · have HS := Lib.hid (Ex.same_true he)
          rw [HS.out] at HE
          have HEQ := Lib.hid he
          clear he
          go_wp2_with (go_at_call 42; refine (HE.out _ (Ext.drew (Below.refl _ _))).mono ?_; rintro e w1 ⟨rfl, hx1⟩)
          go_roundw
          case rel => exact ⟨k + 1, by omega, by go_num, hxr.trans ((Ext.drew (Below.refl _ wr)).trans hx1), by rw [HST.out, HST'.out, HM.out, HEQ.out]⟩
          case measure => simp [intOf]; omega
        · have HS := Lib.hid (Ex.same_false he)
          rw [HS.out] at HE
          have HR := Lib.hid (Ex.same_false (a := .mk v nm l) (b := .mk v nm l') (fun h => he (by injection h with _ _ h; subst h; rfl)))
          clear he
          go_wp2_with (go_at_call 42; refine (HE.out _ (Ext.drew (Below.refl _ _))).mono ?_; rintro e w1 ⟨rfl, hx1⟩)
          go_ret
          exact ⟨ret_bool (by rw [HR.out]), (hx.trans hxr).trans ((Ext.drew (Below.refl _ wr)).trans hx1)⟩
      · have hlt' : ¬ (k : Int) < l.length := by omega
        have hke : k = l.length := by omega
        have HR := Lib.hid (Ex.same_true (a := .mk v nm l) (b := .mk v nm l') (by
          have h1 := HM.out
          rw [hke, List.take_length, HLL.out, List.take_length] at h1
          rw [h1]))
        clear hke
        go_wp2_with fail
        go_ret
        exact ⟨ret_bool (by rw [HR.out]), hx.trans hxr⟩
end Go.Proofs.YtnclgkdpafhogaaGreat
namespace Go.Proofs.YtnclgkdpafhogaaGreat
open Go.ChangeShapes Go.WideShapes Go.ChangeAt Go.RowKit
theorem Fm.same_false {a b : Fm} (h : a ≠ b) : Fm.same a b = false := by
  cases hs : Fm.same a b with
  | false => rfl
  | true => exact absurd ((Fm.same_iff a b).1 hs) h
theorem Fm.same_true {a b : Fm} (h : a = b) : Fm.same a b = true := (Fm.same_iff a b).2 h
set_option maxHeartbeats 16000000 in
set_option maxRecDepth 100000 in
theorem refSame_any (f : Fm) : ∀ (g : Fm) (P Q : Nat → Prop) (w : World) (x y z u x' y' z' u' : Value), IsFm P w x y z u f → IsFm Q w x' y' z' u' g → f.size ≤ 4194304 →
    Calls Tryz.prog 14 #[.agg #[x, y, z, u], .agg #[x', y', z', u']] w fun e w' => e = .returned (.bool (Fm.same f g)) ∧ Ext w w' := by
  induction f using Fm.ind with
  | h op v t l ih =>
    intro g P Q w x y z u x' y' z' u' hf hg hs
    obtain ⟨op', v', t', l'⟩ := g
    obtain ⟨va, vc, ta, tc, a, c, rfl, rfl, rfl, rfl, ho1, ho2, hvl, htl, hll0, hvs, hts, hls⟩ := hf.form
    obtain ⟨va', vc', ta', tc', a', c', rfl, rfl, rfl, rfl, ho1', ho2', hvl', htl', hll0', hvs', hts', hls'⟩ := hg.form
    simp only [Fm.op, Fm.vars, Fm.terms, Fm.args] at *
    simp only [Fm.size] at hs
    have hkl := Fm.length_le_sizes l
    have hkt := Ex.length_le_sizes t
    have HIH := Lib.hid ih
    clear ih hf hg
    by_cases hop : op = op'
    case neg =>
      have q1 : (op != op') = true := by rw [bne_iff_ne]; exact hop
      have HR := Lib.hid (Fm.same_false (a := .mk op v t l) (b := .mk op' v' t' l') (fun h => hop (by injection h)))
      clear hop
      go_enter Tryz.func14, Tryz.ntmps14
      go_wp2_with fail
      go_ret
      exact ⟨ret_bool (by rw [HR.out]), (ext_alloc _ _).alloc _⟩
    subst hop
    have q1 : (op != op) = false := by rw [bne_eq_false_iff_eq]
    by_cases hvv : v.length = v'.length
    case neg =>
      have q2 : ((v.length : Int) != (v'.length : Nat)) = true := by rw [bne_iff_ne]; omega
      have HR := Lib.hid (Fm.same_false (a := .mk op v t l) (b := .mk op v' t' l') (fun h => hvv (by injection h with _ h; rw [h])))
      clear hvv
      go_enter Tryz.func14, Tryz.ntmps14
      go_wp2_with fail
      go_ret
      exact ⟨ret_bool (by rw [HR.out]), (ext_alloc _ _).alloc _⟩
    have q2 : ((v.length : Int) != (v'.length : Nat)) = false := by rw [bne_eq_false_iff_eq]; omega
    have HL2 := Lib.hid hvv
    have hle2 : v.length ≤ v'.length := by omega
    clear hvv
    by_cases htt : t.length = t'.length
    case neg =>
      have q3 : ((t.length : Int) != (t'.length : Nat)) = true := by rw [bne_iff_ne]; omega
      have HR := Lib.hid (Fm.same_false (a := .mk op v t l) (b := .mk op v' t' l') (fun h => htt (by injection h with _ _ h; rw [h])))
      clear htt
      go_enter Tryz.func14, Tryz.ntmps14
      go_wp2_with fail
      go_ret
      exact ⟨ret_bool (by rw [HR.out]), (ext_alloc _ _).alloc _⟩
    have q3 : ((t.length : Int) != (t'.length : Nat)) = false := by rw [bne_eq_false_iff_eq]; omega
    have HL3 := Lib.hid htt
    have hle3 : t.length ≤ t'.length := by omega
    clear htt
    by_cases hll : l.length = l'.length
    case neg =>
      have q4 : ((l.length : Int) != (l'.length : Nat)) = true := by rw [bne_iff_ne]; omega
      have HR := Lib.hid (Fm.same_false (a := .mk op v t l) (b := .mk op v' t' l') (fun h => hll (by injection h with _ _ _ h; rw [h])))
      clear hll
      go_enter Tryz.func14, Tryz.ntmps14
      go_wp2_with fail
      go_ret
      exact ⟨ret_bool (by rw [HR.out]), (ext_alloc _ _).alloc _⟩
    have q4 : ((l.length : Int) != (l'.length : Nat)) = false := by rw [bne_eq_false_iff_eq]; omega
    have HL4 := Lib.hid hll
    have hle4 : l.length ≤ l'.length := by omega
    clear hll
    go_enter Tryz.func14, Tryz.ntmps14
    go_wp2_with fail
    obtain ⟨W, hW⟩ : ∃ W, W = (w.alloc (.cells #[.int .i64 op, .slice va v.length vc, .slice ta t.length tc, .slice a l.length c] 29)).alloc (.cells #[.int .i64 op, .slice va' v'.length vc', .slice ta' t'.length tc', .slice a' l'.length c'] 29) := ⟨_, rfl⟩
    have hx : Ext w W := by rw [hW]; exact (ext_alloc _ _).alloc _
    have hO1 : Own W w.heap.size [.int .i64 op, .slice va v.length vc, .slice ta t.length tc, .slice a l.length c] := by rw [hW]; exact (own4 w _ _ _ _ _).ext (ext_alloc _ _)
    have hO2 : Own W (w.heap.size + 1) [.int .i64 op, .slice va' v'.length vc', .slice ta' t'.length tc', .slice a' l'.length c'] := by
      rw [hW]
      have := own4 (w.alloc (.cells #[.int .i64 op, .slice va v.length vc, .slice ta t.length tc, .slice a l.length c] 29)) (.int .i64 op) (.slice va' v'.length vc') (.slice ta' t'.length tc') (.slice a' l'.length c') 29
      rw [World.size_alloc] at this; exact this
    rw [← hW]
    clear hW
    go_loopw [5] (fun i wr => ∃ k : Nat, k ≤ v.length ∧ i = .int .i64 k ∧ Ext W wr ∧ v.take k = v'.take k) (fun i _ => v.length - (intOf i).toNat)
    case atStart => exact ⟨0, Nat.zero_le _, rfl, Below.refl _ _, rfl⟩
    case round =>
      obtain ⟨k, hkk, rfl, hxr, hm⟩ := hrel
      have HM := Lib.hid hm
      clear hm
      have b1 := (hO1.ext hxr 1 _ rfl).1
      have d1 := (hO2.ext hxr 1 _ rfl).1
      by_cases hlt : k < v.length
      · obtain ⟨b, o, rfl, hb, g1, -⟩ := IsStrs.look (hvs.ext (hx.trans hxr)) hlt
        have hlt2 : k < v'.length := by omega
        obtain ⟨bb, oo, rfl, hbb, j1, -⟩ := IsStrs.look (hvs'.ext (hx.trans hxr)) hlt2
        have hlt' : (k : Int) < v.length := by omega
        have hlt2' : (k : Int) < v'.length := by omega
        have HST := Lib.hid (show v.take (k + 1) = v.take k ++ [v[k]] from List.take_succ_eq_append_getElem hlt)
        have HST' := Lib.hid (show v'.take (k + 1) = v'.take k ++ [v'[k]] from List.take_succ_eq_append_getElem hlt2)
        by_cases he : v[k] = v'[k]
        · have p1 : (v[k].toList == v'[k].toList) = true := bytes_eq' he
          have HEQ := Lib.hid he
          clear he
          go_wp2_with fail
          go_quiet (fail)
          go_wp2_with fail
          go_roundw
          case rel => exact ⟨k + 1, by omega, by go_num, Ext.drewN hxr _, by rw [HST.out, HST'.out, HM.out, HEQ.out]⟩
          case measure => simp [intOf]; omega
        · have p1 : (v[k].toList == v'[k].toList) = false := bytes_ne' he
          have HR := Lib.hid (Fm.same_false (a := .mk op v t l) (b := .mk op v' t' l') (fun h => he (by injection h with _ h; subst h; rfl)))
          clear he
          go_wp2_with fail
          go_quiet (fail)
          go_wp2_with fail
          go_ret
          exact ⟨ret_bool (by rw [HR.out]), Ext.drewN (hx.trans hxr) _⟩
      · have hlt' : ¬ (k : Int) < v.length := by omega
        have HV := Lib.hid (show v = v' by
          have h1 := HM.out
          have hke : k = v.length := by omega
          rw [hke, List.take_length, HL2.out, List.take_length] at h1
          exact h1)
        go_wp2_with fail
        obtain ⟨wo, rfl⟩ : ∃ wo : World, wo = wr := ⟨_, rfl⟩
        have hO1' := hO1.ext hxr
        have hO2' := hO2.ext hxr
        have hxx := hx.trans hxr
        clear b1 d1 hO1 hO2 hvs hvs' HM
        go_loopw [6] (fun i wr => ∃ k : Nat, k ≤ t.length ∧ i = .int .i64 k ∧ Ext wo wr ∧ t.take k = t'.take k) (fun i _ => t.length - (intOf i).toNat)
        case atStart => exact ⟨0, Nat.zero_le _, rfl, Below.refl _ _, rfl⟩
        case round =>
          obtain ⟨k, hkk, rfl, hxr2, hm⟩ := hrel
          have HM := Lib.hid hm
          clear hm
          have b2 := (hO1'.ext hxr2 2 _ rfl).1
          have d2 := (hO2'.ext hxr2 2 _ rfl).1
          by_cases hlt : k < t.length
          · obtain ⟨b, o, aa, cc, rfl, hb, g1, g2, g3, hi⟩ := (IsExs.ext hts (hxx.trans hxr2)).look hlt
            have hlt2 : k < t'.length := by omega
            obtain ⟨bb, oo, aa', cc', rfl, hbb, j1, j2, j3, hi'⟩ := (IsExs.ext hts' (hxx.trans hxr2)).look hlt2
            have hlt' : (k : Int) < t.length := by omega
            have hlt2' : (k : Int) < t'.length := by omega
            have HE := Lib.hid (fun w' (hx : Ext wr w') => refSameExpr_any t[k] t'[k] P Q w' _ _ _ _ _ _ (hi.ext hx) (hi'.ext hx) (by have := Ex.size_le_sizes hlt; omega))
            have HST := Lib.hid (show t.take (k + 1) = t.take k ++ [t[k]] from List.take_succ_eq_append_getElem hlt)
            have HST' := Lib.hid (show t'.take (k + 1) = t'.take k ++ [t'[k]] from List.take_succ_eq_append_getElem hlt2)
            go_wp2_with fail
            go_still_tail 10, (by kernel_rfl)
            change wpList _ _ _ _ _ wr.drew
            by_cases he : t[k] = t'[k]
            · have HS := Lib.hid (Ex.same_true he)
              rw [HS.out] at HE
              have HEQ := Lib.hid he
              clear he
              go_wp2_with (go_at_call 42; refine (HE.out _ (Ext.drew (Below.refl _ _))).mono ?_; rintro e w1 ⟨rfl, hx1⟩)
              go_roundw
              case rel => exact ⟨k + 1, by omega, by go_num, hxr2.trans ((Ext.drew (Below.refl _ wr)).trans hx1), by rw [HST.out, HST'.out, HM.out, HEQ.out]⟩
              case measure => simp [intOf]; omega
            · have HS := Lib.hid (Ex.same_false he)
              rw [HS.out] at HE
              have HR := Lib.hid (Fm.same_false (a := .mk op v t l) (b := .mk op v' t' l') (fun h => he (by injection h with _ _ h; subst h; rfl)))
              clear he
              go_wp2_with (go_at_call 42; refine (HE.out _ (Ext.drew (Below.refl _ _))).mono ?_; rintro e w1 ⟨rfl, hx1⟩)
              go_ret
              exact ⟨ret_bool (by rw [HR.out]), (hxx.trans hxr2).trans ((Ext.drew (Below.refl _ wr)).trans hx1)⟩
          · have hlt' : ¬ (k : Int) < t.length := by omega
            have HTT := Lib.hid (show t = t' by
              have h1 := HM.out
              have hke : k = t.length := by omega
              rw [hke, List.take_length, HL3.out, List.take_length] at h1
              exact h1)
            go_wp2_with fail
            obtain ⟨wp, rfl⟩ : ∃ wp : World, wp = wr := ⟨_, rfl⟩
            have hO1'' := hO1'.ext hxr2
            have hO2'' := hO2'.ext hxr2
            have hxy := hxx.trans hxr2
            clear b2 d2 hO1' hO2' hts hts' HM
            go_loopw [7] (fun i wr => ∃ k : Nat, k ≤ l.length ∧ i = .int .i64 k ∧ Ext wp wr ∧ l.take k = l'.take k) (fun i _ => l.length - (intOf i).toNat)
            case atStart => exact ⟨0, Nat.zero_le _, rfl, Below.refl _ _, rfl⟩
            case round =>
              obtain ⟨k, hkk, rfl, hxr3, hm⟩ := hrel
              have HM := Lib.hid hm
              clear hm
              have b3 := (hO1''.ext hxr3 3 _ rfl).1
              have d3 := (hO2''.ext hxr3 3 _ rfl).1
              by_cases hlt : k < l.length
              · obtain ⟨b, o, y1, y2, y3, y4, aa, cc, rfl, hb, g1, g2, g3, g4, hi⟩ := (IsFms.ext hls (hxy.trans hxr3)).look hlt
                have hlt2 : k < l'.length := by omega
                obtain ⟨bb, oo, y1', y2', y3', y4', aa', cc', rfl, hbb, j1, j2, j3, j4, hi'⟩ := (IsFms.ext hls' (hxy.trans hxr3)).look hlt2
                have hlt' : (k : Int) < l.length := by omega
                have hlt2' : (k : Int) < l'.length := by omega
                have HE := Lib.hid (fun w' (hx : Ext wr w') => HIH.out _ (List.getElem_mem hlt) l'[k] P Q w' _ _ _ _ _ _ _ _ (hi.ext hx) (hi'.ext hx) (by have := Fm.size_le_sizes hlt; omega))
                have HST := Lib.hid (show l.take (k + 1) = l.take k ++ [l[k]] from List.take_succ_eq_append_getElem hlt)
                have HST' := Lib.hid (show l'.take (k + 1) = l'.take k ++ [l'[k]] from List.take_succ_eq_append_getElem hlt2)
                go_wp2_with fail
                go_still_tail 10, (by kernel_rfl)
                change wpList _ _ _ _ _ wr.drew
                by_cases he : l[k] = l'[k]
                · have HS := Lib.hid (Fm.same_true he)
                  rw [HS.out] at HE
                  have HEQ := Lib.hid he
                  clear he
                  go_wp2_with (go_at_call 14; refine (HE.out _ (Ext.drew (Below.refl _ _))).mono ?_; rintro e w1 ⟨rfl, hx1⟩)
                  go_roundw
                  case rel => exact ⟨k + 1, by omega, by go_num, hxr3.trans ((Ext.drew (Below.refl _ wr)).trans hx1), by rw [HST.out, HST'.out, HM.out, HEQ.out]⟩
                  case measure => simp [intOf]; omega
                · have HS := Lib.hid (Fm.same_false he)
                  rw [HS.out] at HE
                  have HR := Lib.hid (Fm.same_false (a := .mk op v t l) (b := .mk op v' t' l') (fun h => he (by injection h with _ _ _ h; subst h; rfl)))
                  clear he
                  go_wp2_with (go_at_call 14; refine (HE.out _ (Ext.drew (Below.refl _ _))).mono ?_; rintro e w1 ⟨rfl, hx1⟩)
                  go_ret
                  exact ⟨ret_bool (by rw [HR.out]), (hxy.trans hxr3).trans ((Ext.drew (Below.refl _ wr)).trans hx1)⟩
              · have hlt' : ¬ (k : Int) < l.length := by omega
                have HR := Lib.hid (Fm.same_true (a := .mk op v t l) (b := .mk op v' t' l') (by
                  have h1 := HM.out
                  have hke : k = l.length := by omega
                  rw [hke, List.take_length, HL4.out, List.take_length] at h1
                  rw [h1, HV.out, HTT.out]))
                go_wp2_with fail
                go_ret
                exact ⟨ret_bool (by rw [HR.out]), hxy.trans hxr3⟩
end Go.Proofs.YtnclgkdpafhogaaGreat
