/- The reference's ExprText. Conditions: a term that may be, of at most 4194304 parts.
Where quoted tokens, remarks end: the reference's quoted, remark, token.remark. Condition: a text of at most 2^30 bytes; for token.remark the library's variable holds a number.
How long a sign is: token.sign. Condition: a text of at most 2^30 bytes.
How long a sign is: the reference's Sign. Condition: a text of at most 2^30 bytes.
The token at a place: token.one, the reference's one. Condition: a text of at most 2^30 bytes. -/
import Derived.Test.YtnclgkdpafhogaaGreatQ1
import Derived.Test.YtnclgkdpafhogaaGreatQ3
import Derived.Test.YtnclgkdpafhogaaGreatQ8
import Derived.Deep.Light
import Derived.Test.YtnclgkdpafhogaaGreatQ0
namespace Go.Proofs.YtnclgkdpafhogaaGreat
open Go.ChangeShapes Go.WideShapes Go.ChangeAt Go.RowKit
theorem app_arr (a b : List UInt8) : (⟨a.toArray⟩ : ByteArray) ++ ⟨b.toArray⟩ = ⟨(a ++ b).toArray⟩ := by
  apply ByteArray.ext; simp
theorem app_lit (a : List UInt8) (x : UInt8) : (⟨a.toArray⟩ : ByteArray) ++ ⟨#[x]⟩ = ⟨(a ++ [x]).toArray⟩ := app_arr a [x]
theorem arr_size (a : List UInt8) : (⟨a.toArray⟩ : ByteArray).size = a.length := rfl
theorem named_size {n : ByteArray} (h : named n = true) : n.size ≤ 40 := by unfold named at h; rw [Bool.and_eq_true, decide_eq_true_iff] at h; exact h.1.2
theorem quote_size {n : ByteArray} (h : named n = true) : (quoteS n).1.data.toList.length ≤ 42 := by
  have h1 := named_size h
  unfold quoteS
  rw [if_pos h]
  split
  · simp only; have : n.data.toList.length = n.size := by simp
    omega
  · simp only
    have : ((⟨#[39]⟩ ++ n ++ ⟨#[39]⟩ : ByteArray)).data.toList.length = n.size + 2 := by simp
    omega
theorem Ex.text_len (x : Ex) : x.may = true → x.text.length + 1 ≤ 50 * x.size := by
  refine Ex.rec (motive_1 := fun x => x.may = true → x.text.length + 1 ≤ 50 * x.size) (motive_2 := fun l => Ex.mays l = true → ∀ c, (Ex.texts c l).length ≤ 50 * Ex.sizes l) ?_ ?_ ?_ x
  · intro v n l ih hm
    have h1 : (if v then n.data.toList else (quoteS n).1.data.toList).length ≤ 42 := by
      cases v <;> simp only [Ex.may, if_true, Bool.false_eq_true, if_false, Bool.and_eq_true] at hm ⊢
      · exact quote_size hm.1
      · have h := hm.2; unfold upperS at h; rw [Bool.and_eq_true] at h
        have := named_size h.1
        have e : n.data.toList.length = n.size := by simp
        omega
    have hms : Ex.mays l = true := by
      cases v <;> simp only [Ex.may, if_true, Bool.false_eq_true, if_false, Bool.and_eq_true, decide_eq_true_eq] at hm
      · exact hm.2
      · rw [List.eq_nil_of_length_eq_zero hm.1]; rfl
    have h2 := ih hms 40
    have h3 : (if 0 < l.length then [(41 : UInt8)] else []).length ≤ 1 := by split <;> simp
    simp only [Ex.text, Ex.size, List.length_append]
    omega
  · intro _ c; simp [Ex.texts]
  · intro e l h1 h2 hm c
    simp only [Ex.mays, Bool.and_eq_true] at hm
    have := h1 hm.1
    have := h2 hm.2 44
    simp only [Ex.texts, Ex.sizes, List.length_cons, List.length_append]
    omega
theorem Ex.texts_take : ∀ (l : List Ex) (c : UInt8) (k : Nat) (h : k < l.length), Ex.texts c (l.take (k + 1)) = Ex.texts c (l.take k) ++ ((if k = 0 then c else 44) :: l[k].text)
  | [], _, _, h => by simp at h
  | e :: l, c, 0, _ => by simp [Ex.texts]
  | e :: l, c, k + 1, h => by
    simp only [List.take_succ_cons, Ex.texts, List.getElem_cons_succ, List.cons_append, List.append_assoc]
    rw [Ex.texts_take l 44 k (by simpa using h)]
    simp
theorem Ex.mays_at {l : List Ex} (h : Ex.mays l = true) {k : Nat} (hk : k < l.length) : l[k].may = true := by
  rw [Ex.mays_all, List.all_eq_true] at h; exact h _ (List.getElem_mem hk)
theorem Ex.texts_len {l : List Ex} (h : Ex.mays l = true) (c : UInt8) (k : Nat) : (Ex.texts c (l.take k)).length ≤ 50 * Ex.sizes l := by
  have h1 : ∀ (l : List Ex) (c : UInt8), Ex.mays l = true → (Ex.texts c l).length ≤ 50 * Ex.sizes l := by
    intro l
    induction l with
    | nil => intro c _; simp [Ex.texts]
    | cons e l ih =>
      intro c h
      simp only [Ex.mays, Bool.and_eq_true] at h
      have := e.text_len h.1
      have := ih 44 h.2
      simp only [Ex.texts, Ex.sizes, List.length_cons, List.length_append]
      omega
  have h2 : Ex.mays (l.take k) = true := by
    rw [Ex.mays_all, List.all_eq_true] at h ⊢
    exact fun x hx => h x (List.take_subset _ _ hx)
  have := h1 (l.take k) c h2
  have := Ex.sizes_take_le l k
  omega
set_option maxHeartbeats 4000000 in
set_option maxRecDepth 100000 in
theorem refExprText_any (t : Ex) : t.may = true → ∀ (P : Nat → Prop) (w : World) (x y z : Value), IsEx P w x y z t → t.size ≤ 4194304 →
    Calls Tryz.prog 93 #[.agg #[x, y, z]] w fun e w' => e = .returned (.string ⟨t.text.toArray⟩) ∧ Ext w w' := by
  induction t using Ex.ind with
  | h v n l ih =>
    intro hm P w x y z ht hs
    obtain ⟨a, c, rfl, rfl, rfl, hn, hc1, hk⟩ := ht.form
    simp only [Ex.var, Ex.name, Ex.args] at hn hc1 hk ⊢
    obtain ⟨W, hW⟩ : ∃ W, W = w.alloc (.cells #[.bool v, .string n, .slice a l.length c] 73) := ⟨_, rfl⟩
    have hx : Ext w W := by rw [hW]; exact ext_alloc _ _
    have hb : Own W w.heap.size [.bool v, .string n, .slice a l.length c] := by rw [hW]; exact own3 w _ _ _ _
    obtain ⟨k0, -⟩ := hb 0 _ rfl
    obtain ⟨k1, -⟩ := hb 1 _ rfl
    obtain ⟨k2, -⟩ := hb 2 _ rfl
    have hbl := hb.lt
    clear ht
    cases v with
    | true =>
      simp only [Ex.may, if_true, Bool.and_eq_true, decide_eq_true_eq] at hm
      have hl := List.eq_nil_of_length_eq_zero hm.1
      subst hl
      have HT := Lib.hid (show (⟨(Ex.mk true n []).text.toArray⟩ : ByteArray) = n by simp only [Ex.text, if_true, Ex.texts, List.length_nil, Nat.lt_irrefl, if_false, List.append_nil])
      clear hm ih
      simp only [List.length_nil] at hW
      go_enter Tryz.func93, Tryz.ntmps93
      go_upto_region 1 with fail
      rw [← hW]
      clear hW
      go_wp2
      go_ret
      exact ⟨by rw [HT.out]; rfl, hx⟩
    | false =>
      simp only [Ex.may, Bool.false_eq_true, if_false, Bool.and_eq_true] at hm
      obtain ⟨hnm, hms⟩ := hm
      simp only [Ex.size] at hs
      have hq := quote_size hnm
      have HQ := Lib.hid (fun w => refQuoteB_any n hn w)
      have HT := Lib.hid (show (Ex.mk false n l).text = (quoteS n).1.data.toList ++ (Ex.texts 40 l ++ (if 0 < l.length then [41] else [])) by simp only [Ex.text, Bool.false_eq_true, if_false])
      generalize (quoteS n).2 = qb at HQ
      generalize (quoteS n).1 = q at HQ hq HT
      have hql : q.size ≤ 42 := by have e : q.data.toList.length = q.size := by simp
                                   omega
      have HIH := Lib.hid (fun (k : Nat) (h : k < l.length) w' (_ : Ext w w') (a' : Option Addr) (c' : Nat) (hi : IsEx P w' (.bool l[k].var) (.string l[k].name) (.slice a' l[k].args.length c') l[k]) => ih _ (List.getElem_mem h) (Ex.mays_at hms h) P w' _ _ _ hi (by have := Ex.size_le_sizes h; omega))
      clear ih hnm
      have hx0 := hx
      go_enter Tryz.func93, Tryz.ntmps93
      go_upto_region 4 with (rw [← hW]; clear hW; go_at_call 78; refine (HQ.out _).mono ?_; rintro e w1 ⟨rfl, rfl⟩)
      go_wp2_with fail
      clear k0 k1
      go_loopw [3, 5] (fun sv iv wr => ∃ (k : Nat) (sb : ByteArray), k ≤ l.length ∧ iv = .int .i64 k ∧ sv = .string sb ∧ sb = ⟨(q.data.toList ++ Ex.texts 40 (l.take k)).toArray⟩ ∧ Ext W wr) (fun _ i _ => l.length - (intOf i).toNat)
      case atStart => exact ⟨0, q, Nat.zero_le _, rfl, rfl, by simp [Ex.texts], Below.refl _ _⟩
      case round =>
        obtain ⟨k, sb, hkk, rfl, rfl, hsb, hxr⟩ := hrel
        have hkl := Ex.length_le_sizes l
        have htl := Ex.texts_len hms 40 k
        have hsz : sb.size ≤ 42 + 50 * Ex.sizes l := by rw [hsb, arr_size, List.length_append]; omega
        have Hsb := Lib.hid hsb; clear hsb
        have b2 := hxr.cell k2
        have hwl : w.heap.size < wr.heap.size := cell_lt b2
        by_cases hlt : k < l.length
        · have hk1 : (k : Int) < l.length := by omega
          have hst := Ex.texts_take l 40 k hlt
          have hte := l[k].text_len (Ex.mays_at hms hlt)
          have hss := Ex.size_le_sizes hlt
          have Hst := Lib.hid hst; clear hst
          obtain ⟨b', o', a', c', rfl, -, g1, g2, g3, hi⟩ := (IsExs.ext hk (hx0.trans hxr)).look hlt
          have Hi := Lib.hid (HIH.out k hlt wr (hx0.trans hxr) a' c' hi)
          have hq2 : sb.size + 1 + (l[k].text).length ≤ 9223372036854775807 := by omega
          have hq1 : sb.size + 1 ≤ 9223372036854775807 := by omega
          have hq3 : ¬ 9223372036854775807 < sb.size + 1 + (l[k].text).length := Nat.not_lt.2 hq2
          clear hi
          by_cases hz : k = 0
          · have hzb : ((k : Int) == 0) = true := by simp [hz]
            have Hcb := Lib.hid (show (if k = 0 then (40 : UInt8) else 44) = 40 by rw [if_pos hz])
            clear hz
            go_wp2_with (go_at_call 93; refine (Hi.out).mono ?_; rintro e w2 ⟨rfl, hx2⟩)
            go_roundw
            case rel => exact ⟨k + 1, _, by omega, by go_num, rfl, by rw [Hsb.out, Hst.out, Hcb.out]; simp only [app_arr]; simp, hxr.trans hx2⟩
            case measure => simp [intOf]; omega
          · have hzb : ((k : Int) == 0) = false := by rw [beq_eq_false_iff_ne]; omega
            have Hcb := Lib.hid (show (if k = 0 then (40 : UInt8) else 44) = 44 by rw [if_neg hz])
            clear hz
            go_wp2_with (go_at_call 93; refine (Hi.out).mono ?_; rintro e w2 ⟨rfl, hx2⟩)
            go_roundw
            case rel => exact ⟨k + 1, _, by omega, by go_num, rfl, by rw [Hsb.out, Hst.out, Hcb.out]; simp only [app_arr]; simp, hxr.trans hx2⟩
            case measure => simp [intOf]; omega
        · have hk1 : ¬ (k : Int) < l.length := by omega
          have hke : k = l.length := by omega
          have HS := Lib.hid (show sb = ⟨(q.data.toList ++ Ex.texts 40 l).toArray⟩ by rw [Hsb.out, hke, List.take_length])
          have hq1 : sb.size + 1 ≤ 9223372036854775807 := by omega
          clear hke htl
          by_cases h0 : 0 < l.length
          · have hd0 : decide ((0 : Int) < (l.length : Nat)) = true := decide_eq_true (by omega)
            have h0' : (0 : Int) < (l.length : Nat) := by omega
            replace HT := Lib.hid (show (⟨(Ex.mk false n l).text.toArray⟩ : ByteArray) = ⟨(q.data.toList ++ (Ex.texts 40 l ++ [41])).toArray⟩ by rw [HT.out, if_pos h0])
            clear h0
            go_wp2_with fail
            go_ret
            exact ⟨by rw [HT.out, HS.out, ← List.append_assoc]; exact congrArg (fun b => Ending.returned (.string b)) (app_lit _ _), hx0.trans hxr⟩
          · have hd0 : decide ((0 : Int) < (l.length : Nat)) = false := decide_eq_false (by omega)
            have h0' : ¬ (0 : Int) < (l.length : Nat) := by omega
            replace HT := Lib.hid (show (⟨(Ex.mk false n l).text.toArray⟩ : ByteArray) = ⟨(q.data.toList ++ Ex.texts 40 l).toArray⟩ by rw [HT.out, if_neg h0, List.append_nil])
            clear h0
            go_wp2_with fail
            go_ret
            exact ⟨by rw [HT.out, HS.out]; rfl, hx0.trans hxr⟩
end Go.Proofs.YtnclgkdpafhogaaGreat
namespace Go.Proofs.YtnclgkdpafhogaaGreat
open Go.ChangeShapes Go.WideShapes Go.ChangeAt Go.RowKit
theorem inner_split (c : UInt8) : innerB c = (!((c.toNat : Int) == 39) && !(decide ((c.toNat : Int) < 32) || decide (126 < (c.toNat : Int)) || ((c.toNat : Int) == 92))) := by
  have e1 : ((c.toNat : Int) == 39) = decide (c.toNat = 39) := by rw [Bool.eq_iff_iff]; simp; omega
  have e2 : ((c.toNat : Int) == 92) = decide (c.toNat = 92) := by rw [Bool.eq_iff_iff]; simp; omega
  rw [e1, e2]
  unfold innerB
  rw [Bool.eq_iff_iff]; simp; omega
set_option maxHeartbeats 2000000 in
theorem refQuoted_any (s : ByteArray) (hs : s.size ≤ 1073741824) (k : Nat) (hk : k < s.size) (w : World) :
    Calls Tryz.prog 175 #[.string s, .int .i64 k] w fun e w' => e = .returned (.int .i64 (quotedEnd s k : Nat)) ∧ w = w' := by
  have HQ := Lib.hid (show quotedEnd s k = _ from rfl : quotedEnd s k = if runTo innerB s (k + 1) = k + 1 ∨ byt s (runTo innerB s (k + 1)) ≠ 39 then k else runTo innerB s (k + 1) + 1)
  generalize quotedEnd s k = q at HQ ⊢
  go_enter Tryz.func175, Tryz.ntmps175
  go_wp2_with fail
  go_loop [5] (fun i => ∃ j : Nat, k + 1 ≤ j ∧ j ≤ s.size ∧ i = .int .i64 j ∧ runTo innerB s (k + 1) = runTo innerB s j) (fun i => s.size - (intOf i).toNat)
  case atStart => exact ⟨k + 1, Nat.le_refl _, by omega, by go_num, rfl⟩
  case round =>
    obtain ⟨j, hkj, hj, rfl, heq⟩ := hrel
    have Heq := Lib.hid heq; clear heq
    by_cases hlt : j < s.size
    · have hlt' : decide ((j : Int) < (s.size : Nat)) = true := decide_eq_true (by omega)
      have Hst := Lib.hid (runTo_step (p := innerB) hlt)
      have Hby := Lib.hid (byt_of hlt)
      have Hsp := Lib.hid (inner_split s[j])
      have hcl := s[j].toNat_lt
      cases hl : ((s[j].toNat : Int) == 39) with
      | true =>
        have Hn : Hid (runTo innerB s j = j) := by have := Hst.out; rw [Hsp.out, hl, if_neg (by simp)] at this; exact this
        by_cases hjk : j = k + 1
        · have d : ((j : Int) == (k : Int) + 1) = true := by rw [beq_iff_eq]; omega
          have Hjk := Lib.hid hjk; clear hjk
          go_wp2_with fail
          go_ret
          exact ⟨ret_int (by rw [HQ.out, Heq.out, Hn.out, if_pos (.inl Hjk.out)]), rfl⟩
        · have d : ((j : Int) == (k : Int) + 1) = false := by rw [beq_eq_false_iff_ne]; omega
          have Hjk := Lib.hid hjk; clear hjk
          have H39 : Hid ((s[j].toNat : Int) = 39) := by rw [beq_iff_eq] at hl; exact hl
          go_wp2_with fail
          go_ret
          refine ⟨ret_int ?_, rfl⟩
          rw [HQ.out, Heq.out, Hn.out, if_neg]
          · omega
          · rintro (h | h)
            · exact Hjk.out h
            · exact h (by rw [Hby.out]; exact H39.out)
      | false =>
        have Hne : Hid (¬ (s[j].toNat : Int) = 39) := by rw [beq_eq_false_iff_ne] at hl; exact hl
        cases h1 : decide ((s[j].toNat : Int) < 32) <;> cases h2 : decide (126 < (s[j].toNat : Int)) <;> cases h3 : ((s[j].toNat : Int) == 92)
        all_goals
          have Hc := Lib.hid (And.intro h1 (And.intro h2 (And.intro h3 hl)))
          go_wp2_with fail
          first
            | (go_ret
               obtain ⟨h1, h2, h3, hl⟩ := Hc.out
               have hn : runTo innerB s j = j := by have := Hst.out; rw [Hsp.out, hl, h1, h2, h3, if_neg (by decide)] at this; exact this
               exact ⟨ret_int (by rw [HQ.out, Heq.out, hn, if_pos (.inr (by rw [Hby.out]; exact Hne.out))]), rfl⟩)
            | (go_round
               case rel =>
                 obtain ⟨h1, h2, h3, hl⟩ := Hc.out
                 have hn := Hst.out
                 rw [Hsp.out, hl, h1, h2, h3, if_pos (by decide)] at hn
                 exact ⟨j + 1, by go_light; omega, by go_light; omega, by go_num, by rw [Heq.out, hn]⟩
               case measure => simp [intOf]; omega)
    · have hlt' : decide ((j : Int) < (s.size : Nat)) = false := decide_eq_false (by omega)
      go_wp2_with fail
      have : j = s.size := by omega
      subst this
      go_ret
      exact ⟨ret_int (by rw [HQ.out, Heq.out, runTo_end (Nat.le_refl _), if_pos (.inr (by rw [byt_none (Nat.le_refl _)]; omega))]), rfl⟩

/-! ### remarks -/
def lineB (c : UInt8) : Bool := decide (c.toNat ≠ 10)
/-- where, from a place on, the bytes 42, 47 end first -/
def closeAt (s : ByteArray) (i : Nat) : Option Nat := if 0 ≤ Lib.index (s.data.toList.drop i) [42, 47] then some (i + (Lib.index (s.data.toList.drop i) [42, 47]).toNat + 2) else none
/-- where a remark ends that begins at a place; the place itself: none does -/
def remarkEnd (s : ByteArray) (k : Nat) : Nat := if byt s k = 37 then runTo lineB s k else if byt s k = 47 ∧ byt s (k + 1) = 42 then (closeAt s (k + 2)).getD k else k

theorem runTo_line {s : ByteArray} {k : Nat} (hk : k ≤ s.size) : (runTo lineB s k : Nat) = if 0 ≤ Lib.indexByte (s.data.toList.drop k) 10 then (k : Int) + Lib.indexByte (s.data.toList.drop k) 10 else s.size := by
  unfold runTo
  have hl : (s.data.toList.drop k).length = s.size - k := by simp
  generalize s.data.toList.drop k = l at hl
  have hk2 : (s.size : Int) = (k : Int) + l.length := by omega
  rw [hk2]
  clear hk2 hl hk
  suffices h : ((l.takeWhile lineB).length : Int) = if 0 ≤ Lib.indexByte l 10 then Lib.indexByte l 10 else l.length by
    split at h <;> split <;> first | omega | contradiction
  induction l with
  | nil => decide
  | cons c l ih =>
    rw [List.takeWhile_cons]
    unfold Lib.indexByte
    have hg := Lib.indexByte_ge l 10
    cases h : lineB c with
    | false =>
      have : c = 10 := by unfold lineB at h; have := of_decide_eq_false h; exact UInt8.toNat_inj.1 (by simpa using this)
      simp [this]
    | true =>
      have hc : (c == 10) = false := by
        unfold lineB at h
        have := of_decide_eq_true h
        rw [beq_eq_false_iff_ne]; rintro rfl; exact this rfl
      rw [hc]
      simp only [Bool.false_eq_true, if_false, if_true, List.length_cons]
      generalize Lib.indexByte l 10 = n at ih hg
      by_cases hn : n = -1
      · subst hn; simp at ih ⊢; omega
      · have : (n == -1) = false := by rw [beq_eq_false_iff_ne]; exact hn
        rw [this]
        rw [if_pos (by omega)] at ih
        simp only [Bool.false_eq_true, if_false]
        rw [if_pos (by omega)]; omega

theorem drop_cons {s : ByteArray} {k : Nat} (h : k < s.size) : s.data.toList.drop k = s[k] :: s.data.toList.drop (k + 1) := by
  rw [List.drop_eq_getElem_cons (by simpa using h)]; rfl
theorem prefix_two {s : ByteArray} {k : Nat} (a b : UInt8) : Lib.hasPrefix (s.data.toList.drop k) [a, b] = decide (byt s k = a.toNat ∧ byt s (k + 1) = b.toNat) := by
  unfold Lib.hasPrefix
  rcases Nat.lt_or_ge k s.size with h | h
  · rw [drop_cons h, byt_of h]
    rcases Nat.lt_or_ge (k + 1) s.size with h2 | h2
    · rw [drop_cons h2, byt_of h2]
      rw [Bool.eq_iff_iff]
      simp only [List.isPrefixOf, Bool.and_true, Bool.and_eq_true, beq_iff_eq, decide_eq_true_eq]
      constructor
      · rintro ⟨rfl, rfl⟩; exact ⟨rfl, rfl⟩
      · rintro ⟨h3, h4⟩; exact ⟨UInt8.toNat_inj.1 (by omega), UInt8.toNat_inj.1 (by omega)⟩
    · rw [List.drop_eq_nil_of_le (by simpa using h2), byt_none h2]
      simp [List.isPrefixOf]
  · rw [List.drop_eq_nil_of_le (by simpa using h), byt_none h]
    simp [List.isPrefixOf]
theorem drop_drop_to (s : ByteArray) (k : Nat) : ((s.extract k s.size).extract 2 (s.extract k s.size).size).data.toList = s.data.toList.drop (k + 2) := by
  rw [Lib.extract_to_end, Lib.extract_to_end, List.drop_drop]
theorem extract_zero {s : ByteArray} {k : Nat} (hk : k < s.size) (h : 0 < (s.extract k s.size).size) : (s.extract k s.size)[0]'h = s[k] := by
  have h1 : (s.extract k s.size).data.toList[0]'(by simpa using h) = s.data.toList[k]'(by simpa using hk) := by
    have h2 := Lib.extract_to_end s k
    have h3 : (s.data.toList.drop k)[0]'(by simp; omega) = s.data.toList[k]'(by simpa using hk) := by simp
    rw [← h3]
    congr 1
  exact h1
set_option maxRecDepth 100000 in
set_option maxHeartbeats 2000000 in
theorem tokRemark_any (s : ByteArray) (hs : s.size ≤ 1073741824) (k : Nat) (hk : k < s.size) (w : World) (m : Int) (hm : w.cell? ⟨0, 0, none⟩ = some (.int .i64 m)) :
    Calls Tryz.prog 171 #[.string s, .int .i64 k] w fun e w' => e = .returned (.int .i64 (remarkEnd s k : Nat)) ∧ w = w' := by
  have hk' : (k : Int) < (s.size : Nat) := by omega
  have HI := Lib.hid (show ∀ w, _ from fun w => Tryz.strings_IndexByte (s.extract k s.size) 10 w)
  rw [Lib.extract_to_end] at HI
  have HP := Lib.hid (show ∀ w, _ from fun w => Tryz.strings_HasPrefix (s.extract k s.size) ⟨#[47, 42]⟩ w)
  rw [Lib.extract_to_end, show (⟨#[47, 42]⟩ : ByteArray).data.toList = [47, 42] from rfl, prefix_two] at HP
  have hsz : (s.extract k s.size).size = s.size - k := by simp
  have HX := Lib.hid (Tryz.strings_Index ((s.extract k s.size).extract 2 (s.extract k s.size).size) ⟨#[42, 47]⟩ m w (by simp; omega) hm)
  rw [drop_drop_to, show (⟨#[42, 47]⟩ : ByteArray).data.toList = [42, 47] from rfl, hsz] at HX
  have hx0 := extract_zero hk
  have HR := Lib.hid (show remarkEnd s k = _ from rfl : remarkEnd s k = if byt s k = 37 then runTo lineB s k else if byt s k = 47 ∧ byt s (k + 1) = 42 then (closeAt s (k + 2)).getD k else k)
  generalize remarkEnd s k = q at HR ⊢
  by_cases c1 : byt s k = 37
  · have d1 : ((s[k].toNat : Int) == 37) = true := by rw [beq_iff_eq, ← byt_of hk]; exact c1
    have HQ : Hid ((q : Int) = if 0 ≤ Lib.indexByte (s.data.toList.drop k) 10 then (k : Int) + Lib.indexByte (s.data.toList.drop k) 10 else s.size) := Lib.hid (by
      rw [← runTo_line (by omega), HR.out, if_pos c1])
    have hg := Lib.indexByte_ge (s.data.toList.drop k) 10
    have hle : Lib.indexByte (s.data.toList.drop k) 10 ≤ s.size := by
      have h1 := runTo_line (s := s) (k := k) (by omega)
      have h2 := runTo_le (p := lineB) (s := s) (k := k) (by omega)
      split at h1 <;> omega
    change Hid (∀ w, Calls _ _ _ w fun e w' => e = .returned (.int .i64 (Lib.indexByte (s.data.toList.drop k) 10)) ∧ w' = w) at HI
    generalize Lib.indexByte (s.data.toList.drop k) 10 = n at HI HQ hg hle
    clear c1 HR HP HX
    by_cases c2 : 0 ≤ n
    · have d2 : decide (0 ≤ n) = true := decide_eq_true c2
      go_enter Tryz.func171, Tryz.ntmps171
      go_wp2_with (refine (HI.out _).mono ?_; rintro e w' ⟨rfl, rfl⟩)
      go_ret
      exact ⟨ret_int (by rw [HQ.out, if_pos (by omega)]), rfl⟩
    · have d2 : decide (0 ≤ n) = false := decide_eq_false c2
      go_enter Tryz.func171, Tryz.ntmps171
      go_wp2_with (refine (HI.out _).mono ?_; rintro e w' ⟨rfl, rfl⟩)
      go_ret
      exact ⟨ret_int (by rw [HQ.out, if_neg (by omega)]), rfl⟩
  · have d1 : ((s[k].toNat : Int) == 37) = false := by rw [beq_eq_false_iff_ne, ← byt_of hk]; exact c1
    by_cases c2 : byt s k = 47 ∧ byt s (k + 1) = 42
    · rw [decide_eq_true (by exact c2)] at HP
      have HQ := Lib.hid (show q = (closeAt s (k + 2)).getD k by rw [HR.out, if_neg c1, if_pos c2])
      unfold closeAt at HQ
      have hs2 : 2 ≤ s.size - k := by
        have := c2.2
        rcases Nat.lt_or_ge (k + 1) s.size with h | h
        · omega
        · rw [byt_none h] at this; omega
      have hs2' : (2 : Int) ≤ ((s.size - k : Nat) : Int) := by omega
      have hg := Lib.index_ge (s.data.toList.drop (k + 2)) [42, 47]
      have hle : Lib.index (s.data.toList.drop (k + 2)) [42, 47] ≤ s.size := by
        have := Lib.index_le (s.data.toList.drop (k + 2)) [42, 47]
        simp at this
        omega
      generalize Lib.index (s.data.toList.drop (k + 2)) [42, 47] = n at HX HQ hg hle
      clear c1 c2 HR HI
      by_cases c3 : 0 ≤ n
      · have d3 : decide (0 ≤ n) = true := decide_eq_true c3
        go_enter Tryz.func171, Tryz.ntmps171
        go_wp2_with (first | (go_at_call 188; refine (HP.out _).mono ?_; rintro e w' ⟨rfl, rfl⟩) | (go_at_call 189; refine (HX.out).mono ?_; rintro e w' ⟨rfl, rfl⟩))
        go_ret
        exact ⟨ret_int (by rw [HQ.out, if_pos (by omega), Option.getD_some]; omega), rfl⟩
      · have d3 : decide (0 ≤ n) = false := decide_eq_false c3
        go_enter Tryz.func171, Tryz.ntmps171
        go_wp2_with (first | (go_at_call 188; refine (HP.out _).mono ?_; rintro e w' ⟨rfl, rfl⟩) | (go_at_call 189; refine (HX.out).mono ?_; rintro e w' ⟨rfl, rfl⟩))
        go_ret
        exact ⟨ret_int (by rw [HQ.out, if_neg (by omega), Option.getD_none]), rfl⟩
    · rw [decide_eq_false (by exact c2)] at HP
      have HQ := Lib.hid (show q = k by rw [HR.out, if_neg c1, if_neg c2])
      clear c1 c2 HR HI HX
      go_enter Tryz.func171, Tryz.ntmps171
      go_wp2_with (go_at_call 188; refine (HP.out _).mono ?_; rintro e w' ⟨rfl, rfl⟩)
      go_ret
      exact ⟨ret_int (by rw [HQ.out]), rfl⟩

theorem closeAt_step {s : ByteArray} {i : Nat} (h : i < s.size) : closeAt s i = if byt s i = 42 ∧ byt s (i + 1) = 47 then some (i + 2) else closeAt s (i + 1) := by
  have hp := prefix_two (s := s) (k := i) 42 47
  unfold Lib.hasPrefix at hp
  unfold closeAt
  rw [drop_cons h] at hp ⊢
  have hg := Lib.index_ge (s.data.toList.drop (i + 1)) [42, 47]
  have e : Lib.index (s[i] :: s.data.toList.drop (i + 1)) [42, 47] = if byt s i = 42 ∧ byt s (i + 1) = 47 then 0 else if Lib.index (s.data.toList.drop (i + 1)) [42, 47] == -1 then -1 else Lib.index (s.data.toList.drop (i + 1)) [42, 47] + 1 := by
    rw [Lib.index, hp]
    by_cases hc : byt s i = 42 ∧ byt s (i + 1) = 47
    · rw [if_pos hc, if_pos (decide_eq_true (by exact hc))]
    · rw [if_neg hc, if_neg (by rw [decide_eq_false (by exact hc)]; decide)]
  rw [e]
  generalize Lib.index (s.data.toList.drop (i + 1)) [42, 47] = n at hg
  by_cases hc : byt s i = 42 ∧ byt s (i + 1) = 47
  · rw [if_pos hc, if_pos hc]; rfl
  · rw [if_neg hc, if_neg hc]
    by_cases hn : n = -1
    · subst hn; rfl
    · have : (n == -1) = false := by rw [beq_eq_false_iff_ne]; exact hn
      rw [this]
      simp only [Bool.false_eq_true, if_false]
      rw [if_pos (by omega), if_pos (by omega)]
      congr 1; omega
theorem closeAt_end {s : ByteArray} {i : Nat} (h : s.size ≤ i + 1) : closeAt s i = none := by
  rcases Nat.lt_or_ge i s.size with h1 | h1
  · rw [closeAt_step h1, if_neg (by rintro ⟨-, h2⟩; rw [byt_none h] at h2; omega)]
    unfold closeAt
    rw [List.drop_eq_nil_of_le (by simpa using h)]; rfl
  · unfold closeAt
    rw [List.drop_eq_nil_of_le (by simpa using h1)]; rfl

theorem line_split (c : UInt8) : lineB c = ((c.toNat : Int) != 10) := by
  unfold lineB
  rw [Bool.eq_iff_iff]; simp; omega
set_option maxRecDepth 100000 in
set_option maxHeartbeats 4000000 in
theorem refRemark_any (s : ByteArray) (hs : s.size ≤ 1073741824) (k : Nat) (hk : k < s.size) (w : World) :
    Calls Tryz.prog 138 #[.string s, .int .i64 k] w fun e w' => e = .returned (.int .i64 (remarkEnd s k : Nat)) ∧ w = w' := by
  have hk' : (k : Int) < (s.size : Nat) := by omega
  have HR := Lib.hid (show remarkEnd s k = _ from rfl : remarkEnd s k = if byt s k = 37 then runTo lineB s k else if byt s k = 47 ∧ byt s (k + 1) = 42 then (closeAt s (k + 2)).getD k else k)
  generalize remarkEnd s k = q at HR ⊢
  by_cases c1 : byt s k = 37
  · have d1 : ((s[k].toNat : Int) == 37) = true := by rw [beq_iff_eq, ← byt_of hk]; exact c1
    have HQ := Lib.hid (show q = runTo lineB s k by rw [HR.out, if_pos c1])
    clear HR c1
    go_enter Tryz.func138, Tryz.ntmps138
    go_wp2_with fail
    go_loop [1] (fun i => ∃ j : Nat, j ≤ s.size ∧ i = .int .i64 j ∧ runTo lineB s k = runTo lineB s j) (fun i => s.size - (intOf i).toNat)
    case atStart => exact ⟨k, by omega, rfl, rfl⟩
    case round =>
      obtain ⟨j, hj, rfl, heq⟩ := hrel
      have Heq := Lib.hid heq; clear heq
      by_cases hlt : j < s.size
      · have hlt' : decide ((j : Int) < (s.size : Nat)) = true := decide_eq_true (by omega)
        have Hst := Lib.hid (runTo_step (p := lineB) hlt)
        have Hsp := Lib.hid (line_split s[j])
        cases hl : ((s[j].toNat : Int) != 10) with
        | false =>
          have Hl := Lib.hid hl
          go_wp2_with fail
          go_ret
          have h1 := Hst.out
          rw [Hsp.out, Hl.out, if_neg (by decide)] at h1
          exact ⟨ret_int (by rw [HQ.out, Heq.out, h1]), rfl⟩
        | true =>
          have Hl := Lib.hid hl
          go_wp2_with fail
          go_round
          case rel =>
            have h1 := Hst.out
            rw [Hsp.out, Hl.out, if_pos rfl] at h1
            exact ⟨j + 1, by omega, by go_num, by rw [Heq.out, h1]⟩
          case measure => simp [intOf]; omega
      · have hlt' : decide ((j : Int) < (s.size : Nat)) = false := decide_eq_false (by omega)
        go_wp2_with fail
        have : j = s.size := by omega
        subst this
        go_ret
        exact ⟨ret_int (by rw [HQ.out, Heq.out, runTo_end (Nat.le_refl _)]), rfl⟩
  · have d1 : ((s[k].toNat : Int) == 37) = false := by rw [beq_eq_false_iff_ne, ← byt_of hk]; exact c1
    have hwk : IntKind.i64.wrap ((k : Int) + 1) = (k : Int) + 1 := IntWalk.i64_in _ (by omega)
    by_cases c2 : byt s k = 47 ∧ byt s (k + 1) = 42
    · have HQ := Lib.hid (show q = (closeAt s (k + 2)).getD k by rw [HR.out, if_neg c1, if_pos c2])
      have hs2 : k + 1 < s.size := by
        have := c2.2
        rcases Nat.lt_or_ge (k + 1) s.size with h | h
        · omega
        · rw [byt_none h] at this; omega
      have hs2' : decide ((s.size : Int) ≤ (k : Int) + 1) = false := decide_eq_false (by omega)
      have d2 : ((s[k].toNat : Int) != 47) = false := by rw [bne_eq_false_iff_eq, ← byt_of hk]; exact c2.1
      have d3 : ((s[k + 1].toNat : Int) != 42) = false := by rw [bne_eq_false_iff_eq, ← byt_of hs2]; exact c2.2
      clear HR c1 c2
      go_enter Tryz.func138, Tryz.ntmps138
      go_wp2_with fail
      go_loop [5] (fun i => ∃ j : Nat, k + 2 ≤ j ∧ j ≤ s.size ∧ i = .int .i64 j ∧ closeAt s (k + 2) = closeAt s j) (fun i => s.size - (intOf i).toNat)
      case atStart => exact ⟨k + 2, by omega, by omega, by go_num, rfl⟩
      case round =>
        obtain ⟨j, hkj, hj, rfl, heq⟩ := hrel
        have Heq := Lib.hid heq; clear heq
        have hwj : IntKind.i64.wrap ((j : Int) + 1) = (j : Int) + 1 := IntWalk.i64_in _ (by omega)
        by_cases hlt : j + 1 < s.size
        · have hlt' : decide ((j : Int) + 1 < (s.size : Nat)) = true := decide_eq_true (by omega)
          have hlt1 : j < s.size := by omega
          have Hst := Lib.hid (closeAt_step hlt1)
          have Hb1 := Lib.hid (byt_of hlt1)
          have Hb2 := Lib.hid (byt_of hlt)
          cases h1 : ((s[j].toNat : Int) == 42) <;> cases h2 : ((s[j + 1].toNat : Int) == 47)
          all_goals
            have Hc := Lib.hid (And.intro h1 h2)
            go_wp2_with fail
            first
              | (go_ret
                 obtain ⟨h1, h2⟩ := Hc.out
                 rw [beq_iff_eq] at h1 h2
                 refine ⟨ret_int ?_, rfl⟩
                 rw [HQ.out, Heq.out, Hst.out, if_pos ⟨by rw [Hb1.out]; exact h1, by rw [Hb2.out]; exact h2⟩, Option.getD_some]
                 omega)
              | (go_round
                 case rel =>
                   obtain ⟨h1, h2⟩ := Hc.out
                   refine ⟨j + 1, by go_light; omega, by go_light; omega, by go_num, ?_⟩
                   rw [Heq.out, Hst.out, if_neg]
                   rintro ⟨g1, g2⟩
                   rw [Hb1.out] at g1
                   rw [Hb2.out] at g2
                   first | (rw [beq_eq_false_iff_ne] at h1; exact h1 g1) | (rw [beq_eq_false_iff_ne] at h2; exact h2 g2)
                 case measure => simp [intOf]; omega)
        · have hlt' : decide ((j : Int) + 1 < (s.size : Nat)) = false := decide_eq_false (by omega)
          go_wp2_with fail
          go_ret
          exact ⟨ret_int (by rw [HQ.out, Heq.out, closeAt_end (by omega), Option.getD_none]), rfl⟩
    · have HQ := Lib.hid (show q = k by rw [HR.out, if_neg c1, if_neg c2])
      clear HR c1
      by_cases hs2 : k + 1 < s.size
      · have hs2' : decide ((s.size : Int) ≤ (k : Int) + 1) = false := decide_eq_false (by omega)
        rw [byt_of hk, byt_of hs2] at c2
        cases h1 : ((s[k].toNat : Int) != 47) <;> cases h2 : ((s[k + 1].toNat : Int) != 42)
        · rw [bne_eq_false_iff_eq] at h1 h2
          exact absurd ⟨h1, h2⟩ c2
        all_goals
          clear c2
          go_enter Tryz.func138, Tryz.ntmps138
          go_wp2_with fail
          go_ret
          exact ⟨ret_int (by rw [HQ.out]), rfl⟩
      · have hs2' : decide ((s.size : Int) ≤ (k : Int) + 1) = true := decide_eq_true (by omega)
        clear c2
        go_enter Tryz.func138, Tryz.ntmps138
        go_wp2_with fail
        go_ret
        exact ⟨ret_int (by rw [HQ.out]), rfl⟩
end Go.Proofs.YtnclgkdpafhogaaGreat
namespace Go.Proofs.YtnclgkdpafhogaaGreat
open Go.ChangeShapes Go.WideShapes Go.ChangeAt Go.RowKit
def signs7 : List (List UInt8) := [[60, 61, 62], [60, 126, 62], [61, 62], [60, 61], [126, 124], [126, 38], [33, 61]]
def signs1 : List UInt8 := [40, 41, 91, 93, 44, 46, 58, 38, 124, 126, 61, 33, 63]
/-- how long a sign is with which bytes go on; 0: none -/
def signLen (l : List UInt8) : Nat :=
  match signs7.find? fun x => x.isPrefixOf l with
  | some x => x.length
  | none => match l with
    | [] => 0
    | c :: _ => if signs1.contains c then 1 else 0

theorem index_sign0 (w : World) : (Instr.index 204 (.agg #[.string ⟨#[60, 61, 62]⟩, .string ⟨#[60, 126, 62]⟩, .string ⟨#[61, 62]⟩, .string ⟨#[60, 61]⟩, .string ⟨#[126, 124]⟩, .string ⟨#[126, 38]⟩, .string ⟨#[33, 61]⟩]) (.int .i64 0)).run Tryz.prog w = .ok (.string ⟨#[60, 61, 62]⟩) w := by
  have h1 := Tryz.isAgg9
  have h2 := Tryz.sizeOf9
  simp [Instr.index, asIntOf, run_underlying (Tryz.underlying204), part, h1, h2, Result.andThen]
theorem index_sign1 (w : World) : (Instr.index 204 (.agg #[.string ⟨#[60, 61, 62]⟩, .string ⟨#[60, 126, 62]⟩, .string ⟨#[61, 62]⟩, .string ⟨#[60, 61]⟩, .string ⟨#[126, 124]⟩, .string ⟨#[126, 38]⟩, .string ⟨#[33, 61]⟩]) (.int .i64 1)).run Tryz.prog w = .ok (.string ⟨#[60, 126, 62]⟩) w := by
  have h1 := Tryz.isAgg9
  have h2 := Tryz.sizeOf9
  simp [Instr.index, asIntOf, run_underlying (Tryz.underlying204), part, h1, h2, Result.andThen]
theorem index_sign2 (w : World) : (Instr.index 204 (.agg #[.string ⟨#[60, 61, 62]⟩, .string ⟨#[60, 126, 62]⟩, .string ⟨#[61, 62]⟩, .string ⟨#[60, 61]⟩, .string ⟨#[126, 124]⟩, .string ⟨#[126, 38]⟩, .string ⟨#[33, 61]⟩]) (.int .i64 2)).run Tryz.prog w = .ok (.string ⟨#[61, 62]⟩) w := by
  have h1 := Tryz.isAgg9
  have h2 := Tryz.sizeOf9
  simp [Instr.index, asIntOf, run_underlying (Tryz.underlying204), part, h1, h2, Result.andThen]
theorem index_sign3 (w : World) : (Instr.index 204 (.agg #[.string ⟨#[60, 61, 62]⟩, .string ⟨#[60, 126, 62]⟩, .string ⟨#[61, 62]⟩, .string ⟨#[60, 61]⟩, .string ⟨#[126, 124]⟩, .string ⟨#[126, 38]⟩, .string ⟨#[33, 61]⟩]) (.int .i64 3)).run Tryz.prog w = .ok (.string ⟨#[60, 61]⟩) w := by
  have h1 := Tryz.isAgg9
  have h2 := Tryz.sizeOf9
  simp [Instr.index, asIntOf, run_underlying (Tryz.underlying204), part, h1, h2, Result.andThen]
theorem index_sign4 (w : World) : (Instr.index 204 (.agg #[.string ⟨#[60, 61, 62]⟩, .string ⟨#[60, 126, 62]⟩, .string ⟨#[61, 62]⟩, .string ⟨#[60, 61]⟩, .string ⟨#[126, 124]⟩, .string ⟨#[126, 38]⟩, .string ⟨#[33, 61]⟩]) (.int .i64 4)).run Tryz.prog w = .ok (.string ⟨#[126, 124]⟩) w := by
  have h1 := Tryz.isAgg9
  have h2 := Tryz.sizeOf9
  simp [Instr.index, asIntOf, run_underlying (Tryz.underlying204), part, h1, h2, Result.andThen]
theorem index_sign5 (w : World) : (Instr.index 204 (.agg #[.string ⟨#[60, 61, 62]⟩, .string ⟨#[60, 126, 62]⟩, .string ⟨#[61, 62]⟩, .string ⟨#[60, 61]⟩, .string ⟨#[126, 124]⟩, .string ⟨#[126, 38]⟩, .string ⟨#[33, 61]⟩]) (.int .i64 5)).run Tryz.prog w = .ok (.string ⟨#[126, 38]⟩) w := by
  have h1 := Tryz.isAgg9
  have h2 := Tryz.sizeOf9
  simp [Instr.index, asIntOf, run_underlying (Tryz.underlying204), part, h1, h2, Result.andThen]
theorem index_sign6 (w : World) : (Instr.index 204 (.agg #[.string ⟨#[60, 61, 62]⟩, .string ⟨#[60, 126, 62]⟩, .string ⟨#[61, 62]⟩, .string ⟨#[60, 61]⟩, .string ⟨#[126, 124]⟩, .string ⟨#[126, 38]⟩, .string ⟨#[33, 61]⟩]) (.int .i64 6)).run Tryz.prog w = .ok (.string ⟨#[33, 61]⟩) w := by
  have h1 := Tryz.isAgg9
  have h2 := Tryz.sizeOf9
  simp [Instr.index, asIntOf, run_underlying (Tryz.underlying204), part, h1, h2, Result.andThen]
theorem find_at {p : List UInt8 → Bool} {L : List (List UInt8)} {x : List UInt8} : ∀ {k : Nat}, L[k]? = some x → p x = true → (∀ j, j < k → ∀ y, L[j]? = some y → p y = false) → L.find? p = some x := by
  induction L with
  | nil => intro k h; simp at h
  | cons a L ih =>
    intro k h1 h2 h3
    cases k with
    | zero => injection h1 with h1; subst h1; rw [List.find?_cons, h2]
    | succ k =>
      rw [List.find?_cons, h3 0 (by omega) a rfl]
      exact ih (k := k) (by simpa using h1) h2 fun j hj y hy => h3 (j + 1) (by omega) y (by simpa using hy)
theorem find_none {p : List UInt8 → Bool} {L : List (List UInt8)} (h : ∀ j, j < L.length → ∀ y, L[j]? = some y → p y = false) : L.find? p = none := by
  rw [List.find?_eq_none]
  intro x hx
  obtain ⟨j, hj, rfl⟩ := List.getElem_of_mem hx
  rw [h j hj _ (List.getElem?_eq_getElem hj)]
  decide
theorem indexByte_pos (l : List UInt8) (c : UInt8) : decide (0 ≤ Lib.indexByte l c) = l.contains c := by
  induction l with
  | nil => rfl
  | cons b l ih =>
    have hg := Lib.indexByte_ge l c
    rw [Lib.indexByte, List.contains_cons, ← ih]
    generalize Lib.indexByte l c = n at hg
    by_cases hb : b = c
    · subst hb; simp
    · have h1 : (b == c) = false := by rw [beq_eq_false_iff_ne]; exact hb
      have h2 : (c == b) = false := by rw [beq_eq_false_iff_ne]; exact fun h => hb h.symm
      rw [h1, h2]
      by_cases hn : n = -1
      · subst hn; rfl
      · have h3 : (n == -1) = false := by rw [beq_eq_false_iff_ne]; exact hn
        rw [h3, Bool.eq_iff_iff]
        simp; omega
theorem u8_back (c : UInt8) : ((c.toNat : Int)).toNat.toUInt8 = c := by
  apply UInt8.toNat_inj.1
  simp
set_option maxRecDepth 100000 in
set_option maxHeartbeats 4000000 in
theorem tokSign_any (s : ByteArray) (hs : s.size ≤ 1073741824) (h0 : 0 < s.size) (w : World) :
    Calls Tryz.prog 191 #[.string s] w fun e w' => e = .returned (.int .i64 (signLen s.data.toList : Nat)) ∧ Ext w w' := by
  have HP0 := Lib.hid (fun w => show Calls Tryz.prog 188 #[.string s, .string ⟨#[60, 61, 62]⟩] w (fun e w' => e = .returned (.bool (List.isPrefixOf [60, 61, 62] s.data.toList)) ∧ w' = w) from Tryz.strings_HasPrefix s ⟨#[60, 61, 62]⟩ w)
  have HP1 := Lib.hid (fun w => show Calls Tryz.prog 188 #[.string s, .string ⟨#[60, 126, 62]⟩] w (fun e w' => e = .returned (.bool (List.isPrefixOf [60, 126, 62] s.data.toList)) ∧ w' = w) from Tryz.strings_HasPrefix s ⟨#[60, 126, 62]⟩ w)
  have HP2 := Lib.hid (fun w => show Calls Tryz.prog 188 #[.string s, .string ⟨#[61, 62]⟩] w (fun e w' => e = .returned (.bool (List.isPrefixOf [61, 62] s.data.toList)) ∧ w' = w) from Tryz.strings_HasPrefix s ⟨#[61, 62]⟩ w)
  have HP3 := Lib.hid (fun w => show Calls Tryz.prog 188 #[.string s, .string ⟨#[60, 61]⟩] w (fun e w' => e = .returned (.bool (List.isPrefixOf [60, 61] s.data.toList)) ∧ w' = w) from Tryz.strings_HasPrefix s ⟨#[60, 61]⟩ w)
  have HP4 := Lib.hid (fun w => show Calls Tryz.prog 188 #[.string s, .string ⟨#[126, 124]⟩] w (fun e w' => e = .returned (.bool (List.isPrefixOf [126, 124] s.data.toList)) ∧ w' = w) from Tryz.strings_HasPrefix s ⟨#[126, 124]⟩ w)
  have HP5 := Lib.hid (fun w => show Calls Tryz.prog 188 #[.string s, .string ⟨#[126, 38]⟩] w (fun e w' => e = .returned (.bool (List.isPrefixOf [126, 38] s.data.toList)) ∧ w' = w) from Tryz.strings_HasPrefix s ⟨#[126, 38]⟩ w)
  have HP6 := Lib.hid (fun w => show Calls Tryz.prog 188 #[.string s, .string ⟨#[33, 61]⟩] w (fun e w' => e = .returned (.bool (List.isPrefixOf [33, 61] s.data.toList)) ∧ w' = w) from Tryz.strings_HasPrefix s ⟨#[33, 61]⟩ w)
  have HX := Lib.hid (fun w => Tryz.strings_IndexByte ⟨#[40, 41, 91, 93, 44, 46, 58, 38, 124, 126, 61, 33, 63]⟩ (s[0].toNat : Int) w)
  rw [u8_back] at HX
  have HL := Lib.hid (show s.data.toList = s[0] :: s.data.toList.drop 1 by rw [← drop_cons h0, List.drop_zero])
  have HQ := Lib.hid (show signLen s.data.toList = _ from rfl : signLen s.data.toList = match signs7.find? fun x => x.isPrefixOf s.data.toList with | some x => x.length | none => match s.data.toList with | [] => 0 | c :: _ => if signs1.contains c then 1 else 0)
  have hcl := s[0].toNat_lt
  have h0' : (0 : Int) < (s.size : Nat) := by omega
  generalize signLen s.data.toList = q at HQ ⊢
  obtain ⟨W, hW⟩ : ∃ W, W = w.alloc (.cells #[.string ⟨#[60, 61, 62]⟩, .string ⟨#[60, 126, 62]⟩, .string ⟨#[61, 62]⟩, .string ⟨#[60, 61]⟩, .string ⟨#[126, 124]⟩, .string ⟨#[126, 38]⟩, .string ⟨#[33, 61]⟩] 204) := ⟨_, rfl⟩
  have hx : Ext w W := by subst hW; go_grown
  go_enter Tryz.func191, Tryz.ntmps191
  go_wp2_with fail
  rw [← hW]
  clear hW
  go_loopw [8] (fun i wr => ∃ k : Nat, k ≤ 7 ∧ ∃ z : Int, z = k ∧ i = .int .i64 z ∧ (∀ j, j < k → ∀ x, signs7[j]? = some x → List.isPrefixOf x s.data.toList = false) ∧ Ext W wr) (fun i _ => 7 - (intOf i).toNat)
  case atStart => exact ⟨0, by omega, 0, rfl, rfl, fun j hj => absurd hj (Nat.not_lt_zero j), Below.refl _ _⟩
  case round =>
    obtain ⟨k, hk, z, hz, rfl, hno, hext⟩ := hrel
    have hk8 : k = 0 ∨ k = 1 ∨ k = 2 ∨ k = 3 ∨ k = 4 ∨ k = 5 ∨ k = 6 ∨ k = 7 := by omega
    rcases hk8 with rfl | rfl | rfl | rfl | rfl | rfl | rfl | rfl
    · have hz' : z = 0 := by omega
      subst hz'
      clear hz hk
      have HN := Lib.hid (hno : ∀ j, j < 0 → ∀ x, signs7[j]? = some x → List.isPrefixOf x s.data.toList = false)
      have hix := index_sign0
      clear hno
      cases hp : List.isPrefixOf [60, 61, 62] s.data.toList with
      | true =>
        rw [hp] at HP0
        have Hp := Lib.hid hp
        go_wp2_with (refine (HP0.out _).mono ?_; rintro e w' ⟨rfl, rfl⟩)
        go_ret
        exact ⟨ret_int (by rw [HQ.out, find_at (p := fun x => x.isPrefixOf s.data.toList) (k := 0) rfl Hp.out HN.out]; rfl), hx.trans hext⟩
      | false =>
        rw [hp] at HP0
        have Hp := Lib.hid hp
        go_wp2_with (refine (HP0.out _).mono ?_; rintro e w' ⟨rfl, rfl⟩)
        go_roundw
        case rel => exact ⟨1, by omega, 1, rfl, rfl, fun j hj x hxj => by
          rcases Nat.lt_or_ge j 0 with h | h
          · exact HN.out j h x hxj
          · obtain rfl : j = 0 := by omega
            injection hxj with hxj; subst hxj; exact Hp.out, hext⟩
        case measure => simp [intOf]
    · have hz' : z = 1 := by omega
      subst hz'
      clear hz hk
      have HN := Lib.hid (hno : ∀ j, j < 1 → ∀ x, signs7[j]? = some x → List.isPrefixOf x s.data.toList = false)
      have hix := index_sign1
      clear hno
      cases hp : List.isPrefixOf [60, 126, 62] s.data.toList with
      | true =>
        rw [hp] at HP1
        have Hp := Lib.hid hp
        go_wp2_with (refine (HP1.out _).mono ?_; rintro e w' ⟨rfl, rfl⟩)
        go_ret
        exact ⟨ret_int (by rw [HQ.out, find_at (p := fun x => x.isPrefixOf s.data.toList) (k := 1) rfl Hp.out HN.out]; rfl), hx.trans hext⟩
      | false =>
        rw [hp] at HP1
        have Hp := Lib.hid hp
        go_wp2_with (refine (HP1.out _).mono ?_; rintro e w' ⟨rfl, rfl⟩)
        go_roundw
        case rel => exact ⟨2, by omega, 2, rfl, rfl, fun j hj x hxj => by
          rcases Nat.lt_or_ge j 1 with h | h
          · exact HN.out j h x hxj
          · obtain rfl : j = 1 := by omega
            injection hxj with hxj; subst hxj; exact Hp.out, hext⟩
        case measure => simp [intOf]
    · have hz' : z = 2 := by omega
      subst hz'
      clear hz hk
      have HN := Lib.hid (hno : ∀ j, j < 2 → ∀ x, signs7[j]? = some x → List.isPrefixOf x s.data.toList = false)
      have hix := index_sign2
      clear hno
      cases hp : List.isPrefixOf [61, 62] s.data.toList with
      | true =>
        rw [hp] at HP2
        have Hp := Lib.hid hp
        go_wp2_with (refine (HP2.out _).mono ?_; rintro e w' ⟨rfl, rfl⟩)
        go_ret
        exact ⟨ret_int (by rw [HQ.out, find_at (p := fun x => x.isPrefixOf s.data.toList) (k := 2) rfl Hp.out HN.out]; rfl), hx.trans hext⟩
      | false =>
        rw [hp] at HP2
        have Hp := Lib.hid hp
        go_wp2_with (refine (HP2.out _).mono ?_; rintro e w' ⟨rfl, rfl⟩)
        go_roundw
        case rel => exact ⟨3, by omega, 3, rfl, rfl, fun j hj x hxj => by
          rcases Nat.lt_or_ge j 2 with h | h
          · exact HN.out j h x hxj
          · obtain rfl : j = 2 := by omega
            injection hxj with hxj; subst hxj; exact Hp.out, hext⟩
        case measure => simp [intOf]
    · have hz' : z = 3 := by omega
      subst hz'
      clear hz hk
      have HN := Lib.hid (hno : ∀ j, j < 3 → ∀ x, signs7[j]? = some x → List.isPrefixOf x s.data.toList = false)
      have hix := index_sign3
      clear hno
      cases hp : List.isPrefixOf [60, 61] s.data.toList with
      | true =>
        rw [hp] at HP3
        have Hp := Lib.hid hp
        go_wp2_with (refine (HP3.out _).mono ?_; rintro e w' ⟨rfl, rfl⟩)
        go_ret
        exact ⟨ret_int (by rw [HQ.out, find_at (p := fun x => x.isPrefixOf s.data.toList) (k := 3) rfl Hp.out HN.out]; rfl), hx.trans hext⟩
      | false =>
        rw [hp] at HP3
        have Hp := Lib.hid hp
        go_wp2_with (refine (HP3.out _).mono ?_; rintro e w' ⟨rfl, rfl⟩)
        go_roundw
        case rel => exact ⟨4, by omega, 4, rfl, rfl, fun j hj x hxj => by
          rcases Nat.lt_or_ge j 3 with h | h
          · exact HN.out j h x hxj
          · obtain rfl : j = 3 := by omega
            injection hxj with hxj; subst hxj; exact Hp.out, hext⟩
        case measure => simp [intOf]
    · have hz' : z = 4 := by omega
      subst hz'
      clear hz hk
      have HN := Lib.hid (hno : ∀ j, j < 4 → ∀ x, signs7[j]? = some x → List.isPrefixOf x s.data.toList = false)
      have hix := index_sign4
      clear hno
      cases hp : List.isPrefixOf [126, 124] s.data.toList with
      | true =>
        rw [hp] at HP4
        have Hp := Lib.hid hp
        go_wp2_with (refine (HP4.out _).mono ?_; rintro e w' ⟨rfl, rfl⟩)
        go_ret
        exact ⟨ret_int (by rw [HQ.out, find_at (p := fun x => x.isPrefixOf s.data.toList) (k := 4) rfl Hp.out HN.out]; rfl), hx.trans hext⟩
      | false =>
        rw [hp] at HP4
        have Hp := Lib.hid hp
        go_wp2_with (refine (HP4.out _).mono ?_; rintro e w' ⟨rfl, rfl⟩)
        go_roundw
        case rel => exact ⟨5, by omega, 5, rfl, rfl, fun j hj x hxj => by
          rcases Nat.lt_or_ge j 4 with h | h
          · exact HN.out j h x hxj
          · obtain rfl : j = 4 := by omega
            injection hxj with hxj; subst hxj; exact Hp.out, hext⟩
        case measure => simp [intOf]
    · have hz' : z = 5 := by omega
      subst hz'
      clear hz hk
      have HN := Lib.hid (hno : ∀ j, j < 5 → ∀ x, signs7[j]? = some x → List.isPrefixOf x s.data.toList = false)
      have hix := index_sign5
      clear hno
      cases hp : List.isPrefixOf [126, 38] s.data.toList with
      | true =>
        rw [hp] at HP5
        have Hp := Lib.hid hp
        go_wp2_with (refine (HP5.out _).mono ?_; rintro e w' ⟨rfl, rfl⟩)
        go_ret
        exact ⟨ret_int (by rw [HQ.out, find_at (p := fun x => x.isPrefixOf s.data.toList) (k := 5) rfl Hp.out HN.out]; rfl), hx.trans hext⟩
      | false =>
        rw [hp] at HP5
        have Hp := Lib.hid hp
        go_wp2_with (refine (HP5.out _).mono ?_; rintro e w' ⟨rfl, rfl⟩)
        go_roundw
        case rel => exact ⟨6, by omega, 6, rfl, rfl, fun j hj x hxj => by
          rcases Nat.lt_or_ge j 5 with h | h
          · exact HN.out j h x hxj
          · obtain rfl : j = 5 := by omega
            injection hxj with hxj; subst hxj; exact Hp.out, hext⟩
        case measure => simp [intOf]
    · have hz' : z = 6 := by omega
      subst hz'
      clear hz hk
      have HN := Lib.hid (hno : ∀ j, j < 6 → ∀ x, signs7[j]? = some x → List.isPrefixOf x s.data.toList = false)
      have hix := index_sign6
      clear hno
      cases hp : List.isPrefixOf [33, 61] s.data.toList with
      | true =>
        rw [hp] at HP6
        have Hp := Lib.hid hp
        go_wp2_with (refine (HP6.out _).mono ?_; rintro e w' ⟨rfl, rfl⟩)
        go_ret
        exact ⟨ret_int (by rw [HQ.out, find_at (p := fun x => x.isPrefixOf s.data.toList) (k := 6) rfl Hp.out HN.out]; rfl), hx.trans hext⟩
      | false =>
        rw [hp] at HP6
        have Hp := Lib.hid hp
        go_wp2_with (refine (HP6.out _).mono ?_; rintro e w' ⟨rfl, rfl⟩)
        go_roundw
        case rel => exact ⟨7, by omega, 7, rfl, rfl, fun j hj x hxj => by
          rcases Nat.lt_or_ge j 6 with h | h
          · exact HN.out j h x hxj
          · obtain rfl : j = 6 := by omega
            injection hxj with hxj; subst hxj; exact Hp.out, hext⟩
        case measure => simp [intOf]
    · have hz' : z = 7 := by omega
      subst hz'
      clear hz hk
      have HN := Lib.hid (hno : ∀ j, j < 7 → ∀ x, signs7[j]? = some x → List.isPrefixOf x s.data.toList = false)
      clear hno
      have HQ2 := Lib.hid (show q = if signs1.contains s[0] then 1 else 0 by rw [HQ.out, find_none (L := signs7) (p := fun x => x.isPrefixOf s.data.toList) HN.out, HL.out])
      have Hd := Lib.hid (indexByte_pos signs1 s[0])
      change Hid (∀ w, Calls _ _ _ w fun e w' => e = .returned (.int .i64 (Lib.indexByte signs1 s[0])) ∧ w' = w) at HX
      generalize Lib.indexByte signs1 s[0] = n at HX Hd
      cases hd : signs1.contains s[0] with
      | true =>
        have hd2 : decide (0 ≤ n) = true := by rw [Hd.out, hd]
        have HQ3 := Lib.hid (show q = 1 by rw [HQ2.out, hd]; rfl)
        clear hd
        go_wp2_with (refine (HX.out _).mono ?_; rintro e w' ⟨rfl, rfl⟩)
        go_ret
        exact ⟨ret_int (by rw [HQ3.out]; rfl), hx.trans hext⟩
      | false =>
        have hd2 : decide (0 ≤ n) = false := by rw [Hd.out, hd]
        have HQ3 := Lib.hid (show q = 0 by rw [HQ2.out, hd]; rfl)
        clear hd
        go_wp2_with (refine (HX.out _).mono ?_; rintro e w' ⟨rfl, rfl⟩)
        go_ret
        exact ⟨ret_int (by rw [HQ3.out]; rfl), hx.trans hext⟩
end Go.Proofs.YtnclgkdpafhogaaGreat
namespace Go.Proofs.YtnclgkdpafhogaaGreat
open Go.ChangeShapes Go.WideShapes Go.ChangeAt Go.RowKit
def signs20 : List (List UInt8) := signs7 ++ signs1.map fun c => [c]
def signs20b : List ByteArray := [⟨#[60, 61, 62]⟩, ⟨#[60, 126, 62]⟩, ⟨#[61, 62]⟩, ⟨#[60, 61]⟩, ⟨#[126, 124]⟩, ⟨#[126, 38]⟩, ⟨#[33, 61]⟩, ⟨#[40]⟩, ⟨#[41]⟩, ⟨#[91]⟩, ⟨#[93]⟩, ⟨#[44]⟩, ⟨#[46]⟩, ⟨#[58]⟩, ⟨#[38]⟩, ⟨#[124]⟩, ⟨#[126]⟩, ⟨#[61]⟩, ⟨#[33]⟩, ⟨#[63]⟩]
theorem signs20_eq : signs20 = signs20b.map fun b => b.data.toList := by decide
theorem find_single (l : List UInt8) : ∀ L : List UInt8, ((L.map fun c => [c]).find? fun x => x.isPrefixOf l) = match l with | [] => none | c :: _ => if L.contains c then some [c] else none
  | [] => by cases l <;> rfl
  | a :: L => by
    rw [List.map_cons, List.find?_cons, find_single l L]
    cases l with
    | nil => rfl
    | cons c l =>
      by_cases h : a = c
      · subst h; simp [List.isPrefixOf]
      · have h1 : (a == c) = false := by rw [beq_eq_false_iff_ne]; exact h
        have h2 : (c == a) = false := by rw [beq_eq_false_iff_ne]; exact fun e => h e.symm
        simp only [List.isPrefixOf, h1, Bool.false_and, List.contains_cons, h2, Bool.false_or]
theorem signLen_eq (l : List UInt8) : signLen l = match signs20.find? fun x => x.isPrefixOf l with | some x => x.length | none => 0 := by
  unfold signLen signs20
  rw [List.find?_append, find_single]
  cases signs7.find? fun x => x.isPrefixOf l with
  | some x => rfl
  | none =>
    cases l with
    | nil => rfl
    | cons c l =>
      cases hc : signs1.contains c
      · simp only [hc, Bool.false_eq_true, if_false, Option.none_or]
      · simp only [hc, if_true, Option.none_or]; rfl
theorem prefix_take {s x : ByteArray} (_h : x.size ≤ s.size) : ((s.extract 0 x.size).toList == x.toList) = List.isPrefixOf x.data.toList s.data.toList := by
  rw [ByteArray.toList_eq, ByteArray.toList_eq, Lib.extract_data, List.drop_zero, Nat.sub_zero, Bool.eq_iff_iff, beq_iff_eq, List.isPrefixOf_iff_prefix]
  have e : x.size = x.data.toList.length := by simp
  rw [e]
  constructor
  · intro h; rw [← h]; exact List.take_prefix _ _
  · intro h; exact (List.prefix_iff_eq_take.1 h).symm
theorem prefix_long {s x : ByteArray} (h : s.size < x.size) : List.isPrefixOf x.data.toList s.data.toList = false := by
  rw [Bool.eq_false_iff]
  intro hp
  rw [List.isPrefixOf_iff_prefix] at hp
  have := hp.length_le
  simp at this
  omega
theorem own20 (w : World) : ∀ k (h : k < 20), (w.alloc (.cells #[.string ⟨#[60, 61, 62]⟩, .string ⟨#[60, 126, 62]⟩, .string ⟨#[61, 62]⟩, .string ⟨#[60, 61]⟩, .string ⟨#[126, 124]⟩, .string ⟨#[126, 38]⟩, .string ⟨#[33, 61]⟩, .string ⟨#[40]⟩, .string ⟨#[41]⟩, .string ⟨#[91]⟩, .string ⟨#[93]⟩, .string ⟨#[44]⟩, .string ⟨#[46]⟩, .string ⟨#[58]⟩, .string ⟨#[38]⟩, .string ⟨#[124]⟩, .string ⟨#[126]⟩, .string ⟨#[61]⟩, .string ⟨#[33]⟩, .string ⟨#[63]⟩] 9)).cell? ⟨w.heap.size, k, none⟩ = some (.string signs20b[k]) := by
  intro k h
  have : k = 0 ∨ k = 1 ∨ k = 2 ∨ k = 3 ∨ k = 4 ∨ k = 5 ∨ k = 6 ∨ k = 7 ∨ k = 8 ∨ k = 9 ∨ k = 10 ∨ k = 11 ∨ k = 12 ∨ k = 13 ∨ k = 14 ∨ k = 15 ∨ k = 16 ∨ k = 17 ∨ k = 18 ∨ k = 19 := by omega
  rcases this with rfl | rfl | rfl | rfl | rfl | rfl | rfl | rfl | rfl | rfl | rfl | rfl | rfl | rfl | rfl | rfl | rfl | rfl | rfl | rfl <;> go_simp <;> rfl
set_option maxRecDepth 100000 in
set_option maxHeartbeats 4000000 in
theorem refSign_any (s : ByteArray) (hs : s.size ≤ 1073741824) (w : World) :
    Calls Tryz.prog 176 #[.string s] w fun e w' => e = .returned (.int .i64 (signLen s.data.toList : Nat)) ∧ Ext w w' := by
  have HQ := Lib.hid (signLen_eq s.data.toList)
  generalize signLen s.data.toList = q at HQ ⊢
  obtain ⟨W, hW⟩ : ∃ W, W = w.alloc (.cells #[.string ⟨#[60, 61, 62]⟩, .string ⟨#[60, 126, 62]⟩, .string ⟨#[61, 62]⟩, .string ⟨#[60, 61]⟩, .string ⟨#[126, 124]⟩, .string ⟨#[126, 38]⟩, .string ⟨#[33, 61]⟩, .string ⟨#[40]⟩, .string ⟨#[41]⟩, .string ⟨#[91]⟩, .string ⟨#[93]⟩, .string ⟨#[44]⟩, .string ⟨#[46]⟩, .string ⟨#[58]⟩, .string ⟨#[38]⟩, .string ⟨#[124]⟩, .string ⟨#[126]⟩, .string ⟨#[61]⟩, .string ⟨#[33]⟩, .string ⟨#[63]⟩] 9) := ⟨_, rfl⟩
  have hx : Ext w W := by subst hW; go_grown
  have h20 := own20 w
  rw [← hW] at h20
  go_enter Tryz.func176, Tryz.ntmps176
  go_wp2_with fail
  rw [← hW]
  clear hW
  go_loopw [4] (fun i wr => ∃ k : Nat, k ≤ 20 ∧ i = .int .i64 k ∧ (∀ j, j < k → ∀ x, signs20[j]? = some x → List.isPrefixOf x s.data.toList = false) ∧ Ext W wr) (fun i _ => 20 - (intOf i).toNat)
  case atStart => exact ⟨0, by omega, rfl, fun j hj => absurd hj (Nat.not_lt_zero j), Below.refl _ _⟩
  case round =>
    obtain ⟨k, hk, rfl, hno, hext⟩ := hrel
    have HN := Lib.hid hno
    clear hno
    by_cases hlt : k < 20
    · have hc := hext.cell (h20 k hlt)
      have hz : (k : Int) < 20 := by omega
      obtain ⟨x, hx1⟩ : ∃ x, x = signs20b[k] := ⟨_, rfl⟩
      have HX := Lib.hid (show signs20[k]? = some x.data.toList by rw [signs20_eq, List.getElem?_map, List.getElem?_eq_getElem (by exact hlt), hx1]; rfl)
      rw [← hx1] at hc
      clear hx1
      by_cases hle : x.size ≤ s.size
      · have hd : decide ((x.size : Int) ≤ (s.size : Nat)) = true := decide_eq_true (by omega)
        have hxs : x.size ≤ 9223372036854775807 := by omega
        have HP := Lib.hid (prefix_take hle)
        cases hp : List.isPrefixOf x.data.toList s.data.toList with
        | true =>
          have Hp := Lib.hid hp
          rw [hp] at HP
          have hq := HP.out
          clear hp
          go_wp2_with fail
          go_quiet (fail)
          go_wp2_with fail
          go_ret
          refine ⟨ret_int ?_, hx.trans (hext.drewN _)⟩
          rw [HQ.out, find_at (p := fun x => x.isPrefixOf s.data.toList) HX.out Hp.out HN.out]
          simp
        | false =>
          have Hp := Lib.hid hp
          rw [hp] at HP
          have hq := HP.out
          clear hp
          go_wp2_with fail
          go_quiet (fail)
          go_wp2_with fail
          go_roundw
          case rel => exact ⟨k + 1, by omega, by go_num, fun j hj x' hxj => by
            rcases Nat.lt_or_ge j k with h | h
            · exact HN.out j h x' hxj
            · obtain rfl : j = k := by omega
              rw [HX.out] at hxj
              injection hxj with hxj; subst hxj; exact Hp.out, hext.drewN _⟩
          case measure => simp [intOf]; omega
      · have hd : decide ((x.size : Int) ≤ (s.size : Nat)) = false := decide_eq_false (by omega)
        go_wp2_with fail
        go_quiet (fail)
        go_wp2_with fail
        go_roundw
        case rel => exact ⟨k + 1, by omega, by go_num, fun j hj x' hxj => by
          rcases Nat.lt_or_ge j k with h | h
          · exact HN.out j h x' hxj
          · obtain rfl : j = k := by omega
            rw [HX.out] at hxj
            injection hxj with hxj; subst hxj; exact prefix_long (by omega), hext.drewN _⟩
        case measure => simp [intOf]; omega
    · have hke : k = 20 := by omega
      subst hke
      clear hk hlt
      go_wp2_with fail
      go_ret
      exact ⟨ret_int (by rw [HQ.out, find_none (L := signs20) (p := fun x => x.isPrefixOf s.data.toList) HN.out]; rfl), hx.trans hext⟩
end Go.Proofs.YtnclgkdpafhogaaGreat
namespace Go.Proofs.YtnclgkdpafhogaaGreat
open Go.ChangeShapes Go.WideShapes Go.ChangeAt Go.RowKit
/-- the kind of the token at a place, and where it ends; the place itself: there is none -/
def oneKind (s : ByteArray) (k : Nat) : Int × Nat :=
  if 97 ≤ byt s k ∧ byt s k ≤ 122 then (1, runTo letterB s k)
  else if 65 ≤ byt s k ∧ byt s k ≤ 90 then (2, runTo letterB s k)
  else if 48 ≤ byt s k ∧ byt s k ≤ 57 then (5, runTo digitB s k)
  else if byt s k = 36 then (3, if 97 ≤ byt s (k + 1) ∧ byt s (k + 1) ≤ 122 then runTo letterB s (k + 1) else k)
  else if byt s k = 39 then (4, quotedEnd s k)
  else (6, k + signLen (s.data.toList.drop k))
def oneEnd (s : ByteArray) (k : Nat) : Nat := (oneKind s k).2
/-- the token at a place -/
def oneTok (s : ByteArray) (k : Nat) : Tok := ⟨(oneKind s k).1, if (oneKind s k).1 = 4 then s.extract (k + 1) (oneEnd s k - 1) else s.extract k (oneEnd s k), k⟩
/-- what both hand back: a token, which is the right one if there is one, and its end -/
def OneSays (s : ByteArray) (k : Nat) (w : World) (e : Ending) (w' : World) : Prop :=
  (∃ t : Tok, e = .returned (.tuple #[.agg t.vals, .int .i64 (oneEnd s k : Nat)]) ∧ (k < oneEnd s k → t = oneTok s k)) ∧ Ext w w'

theorem signLen_le (l : List UInt8) : signLen l ≤ l.length := by
  rw [signLen_eq]
  cases h : signs20.find? fun x => x.isPrefixOf l with
  | none => exact Nat.zero_le _
  | some x =>
    have := List.find?_some h
    exact (List.isPrefixOf_iff_prefix.1 this).length_le
theorem quotedEnd_ge (s : ByteArray) (k : Nat) : k ≤ quotedEnd s k := by
  unfold quotedEnd
  have := runTo_ge innerB s (k + 1)
  split <;> omega
theorem quotedEnd_le {s : ByteArray} {k : Nat} (hk : k < s.size) : quotedEnd s k ≤ s.size := by
  unfold quotedEnd
  have h2 := runTo_le (p := innerB) (s := s) (k := k + 1) (by omega)
  split
  · omega
  · rename_i h
    rcases Nat.lt_or_ge (runTo innerB s (k + 1)) s.size with h3 | h3
    · omega
    · exact absurd (.inr (by rw [byt_none h3]; omega)) h
theorem quotedEnd_two {s : ByteArray} {k : Nat} (h : k < quotedEnd s k) : k + 2 < quotedEnd s k := by
  unfold quotedEnd at h ⊢
  have h1 := runTo_ge innerB s (k + 1)
  split at h
  · omega
  · rename_i hc
    rw [if_neg hc]
    have : runTo innerB s (k + 1) ≠ k + 1 := fun e => hc (.inl e)
    omega
theorem oneEnd_ge (s : ByteArray) (k : Nat) : k ≤ oneEnd s k := by
  unfold oneEnd oneKind
  have h1 := runTo_ge letterB s k
  have h2 := runTo_ge digitB s k
  have h3 := runTo_ge letterB s (k + 1)
  have h4 := quotedEnd_ge s k
  repeat' split
  all_goals first | exact h1 | exact h2 | exact h4 | (simp only; omega)
theorem oneEnd_le {s : ByteArray} {k : Nat} (hk : k < s.size) : oneEnd s k ≤ s.size := by
  unfold oneEnd oneKind
  have h1 := runTo_le (p := letterB) (s := s) (k := k) (by omega)
  have h2 := runTo_le (p := digitB) (s := s) (k := k) (by omega)
  have h3 := runTo_le (p := letterB) (s := s) (k := k + 1) (by omega)
  have h4 := quotedEnd_le hk
  have h5 := signLen_le (s.data.toList.drop k)
  have h6 : (s.data.toList.drop k).length = s.size - k := by simp
  repeat' split
  all_goals first | exact h1 | exact h2 | exact h4 | (simp only; omega)

theorem oneTok_of {s : ByteArray} {k r : Nat} {n : Int} (h : oneKind s k = (n, r)) (h4 : n ≠ 4) : oneEnd s k = r ∧ oneTok s k = ⟨n, s.extract k r, k⟩ := by
  have h1 : oneEnd s k = r := by unfold oneEnd; rw [h]
  refine ⟨h1, ?_⟩
  unfold oneTok
  rw [h1, h]
  simp only
  rw [if_neg h4]
theorem oneTok_four {s : ByteArray} {k r : Nat} (h : oneKind s k = (4, r)) : oneEnd s k = r ∧ oneTok s k = ⟨4, s.extract (k + 1) (r - 1), k⟩ := by
  have h1 : oneEnd s k = r := by unfold oneEnd; rw [h]
  refine ⟨h1, ?_⟩
  unfold oneTok
  rw [h1, h]
  simp only
  rw [if_pos trivial]

theorem slice_to (s : ByteArray) (i j : Nat) (a b : Int) (ha : a = i) (hb : b = j) (hij : i ≤ j) (hj : j ≤ s.size) (w : World) :
    (Instr.slice 9 (.string s) (some (.int .i64 a)) (some (.int .i64 b)) none).run Tryz.prog w = .ok (.string (s.extract i j)) w := by
  subst ha; subst hb
  have h1 : (i : Int) ≤ (j : Nat) := by omega
  have h2 : (j : Int) ≤ (s.size : Nat) := by omega
  first | (go_simp; done) | simp [Instr.slice, run_underlying (Tryz.underlying9), Instr.sliceBounds, run_sliceBound, sliced, *]
theorem small_iff (s : ByteArray) (k : Nat) (hk : k < s.size) : smallB s[k] = decide (97 ≤ byt s k ∧ byt s k ≤ 122) := by
  rw [byt_of hk]; unfold smallB; rw [Bool.eq_iff_iff]; simp; omega
theorem great_iff (s : ByteArray) (k : Nat) (hk : k < s.size) : greatC s[k] = decide (65 ≤ byt s k ∧ byt s k ≤ 90) := by
  rw [byt_of hk]; unfold greatC; rw [Bool.eq_iff_iff]; simp; omega
theorem digit_iff (s : ByteArray) (k : Nat) (hk : k < s.size) : digitB s[k] = decide (48 ≤ byt s k ∧ byt s k ≤ 57) := by
  rw [byt_of hk]; unfold digitB; rw [Bool.eq_iff_iff]; simp; omega
set_option maxRecDepth 100000 in
set_option maxHeartbeats 2000000 in
theorem one_small (s : ByteArray) (hs : s.size ≤ 1073741824) (k : Nat) (hk : k < s.size) (w : World) (c1 : 97 ≤ byt s k ∧ byt s k ≤ 122) :
    Calls Tryz.prog 172 #[.string s, .int .i64 k] w (OneSays s k w) := by
  have hk' : (k : Int) < (s.size : Nat) := by omega
  have hwk : IntKind.i64.wrap ((k : Int) + 1) = (k : Int) + 1 := IntWalk.i64_in _ (by omega)
  have hcl := s[k].toNat_lt
  have HS := Lib.hid (fun w => tokSmall_any s[k] w)
  have HG := Lib.hid (fun w => tokGreat_any s[k] w)
  have HD := Lib.hid (fun w => tokDigit_any s[k] w)
  rw [small_iff s k hk] at HS
  rw [great_iff s k hk] at HG
  rw [digit_iff s k hk] at HD
  rw [decide_eq_true c1] at HS
  have HW := Lib.hid (fun w => whileWord_any s hs k (by omega) w)
  have h1 := runTo_ge letterB s k
  have h2 := runTo_le (p := letterB) (s := s) (k := k) (by omega)
  have HO := Lib.hid (oneTok_of (s := s) (k := k) (r := runTo letterB s k) (n := 1) (by unfold oneKind; simp only [*, if_true, and_self]) (by decide))
  unfold OneSays
  generalize runTo letterB s k = r at HW h1 h2 HO
  have h1' : (k : Int) ≤ (r : Nat) := by omega
  have h2' : (r : Int) ≤ (s.size : Nat) := by omega
  go_enter Tryz.func172, Tryz.ntmps172
  go_wp2_with (first | (go_at_call 127; refine (HS.out _).mono ?_; rintro e w' ⟨rfl, rfl⟩) | (go_at_call 161; refine (HG.out _).mono ?_; rintro e w' ⟨rfl, rfl⟩) | (go_at_call 162; refine (HD.out _).mono ?_; rintro e w' ⟨rfl, rfl⟩) | (go_at_call 122; refine (HW.out _).mono ?_; rintro e w' ⟨rfl, rfl⟩))
  refine bodyPost_ret (v := .tuple #[.agg #[.int .i64 1, .string (s.extract k r), .int .i64 k], .int .i64 r]) (by simp [results, Tryz.results172, go_sem]) rfl ?_
  exact ⟨⟨⟨1, s.extract k r, k⟩, by rw [HO.out.1]; rfl, fun _ => HO.out.2.symm⟩, by go_grown⟩
set_option maxRecDepth 100000 in
set_option maxHeartbeats 2000000 in
theorem one_great (s : ByteArray) (hs : s.size ≤ 1073741824) (k : Nat) (hk : k < s.size) (w : World) (c1 : ¬ (97 ≤ byt s k ∧ byt s k ≤ 122)) (c2 : 65 ≤ byt s k ∧ byt s k ≤ 90) :
    Calls Tryz.prog 172 #[.string s, .int .i64 k] w (OneSays s k w) := by
  have hk' : (k : Int) < (s.size : Nat) := by omega
  have hwk : IntKind.i64.wrap ((k : Int) + 1) = (k : Int) + 1 := IntWalk.i64_in _ (by omega)
  have hcl := s[k].toNat_lt
  have HS := Lib.hid (fun w => tokSmall_any s[k] w)
  have HG := Lib.hid (fun w => tokGreat_any s[k] w)
  have HD := Lib.hid (fun w => tokDigit_any s[k] w)
  rw [small_iff s k hk] at HS
  rw [great_iff s k hk] at HG
  rw [digit_iff s k hk] at HD
  rw [(show decide (97 ≤ byt s k ∧ byt s k ≤ 122) = false from decide_eq_false c1)] at HS
  rw [decide_eq_true c2] at HG
  have HW := Lib.hid (fun w => whileWord_any s hs k (by omega) w)
  have h1 := runTo_ge letterB s k
  have h2 := runTo_le (p := letterB) (s := s) (k := k) (by omega)
  have HO := Lib.hid (oneTok_of (s := s) (k := k) (r := runTo letterB s k) (n := 2) (by unfold oneKind; simp only [*, if_true, if_false, and_self]) (by decide))
  unfold OneSays
  generalize runTo letterB s k = r at HW h1 h2 HO
  have h1' : (k : Int) ≤ (r : Nat) := by omega
  have h2' : (r : Int) ≤ (s.size : Nat) := by omega
  go_enter Tryz.func172, Tryz.ntmps172
  go_wp2_with (first | (go_at_call 127; refine (HS.out _).mono ?_; rintro e w' ⟨rfl, rfl⟩) | (go_at_call 161; refine (HG.out _).mono ?_; rintro e w' ⟨rfl, rfl⟩) | (go_at_call 162; refine (HD.out _).mono ?_; rintro e w' ⟨rfl, rfl⟩) | (go_at_call 122; refine (HW.out _).mono ?_; rintro e w' ⟨rfl, rfl⟩))
  refine bodyPost_ret (v := .tuple #[.agg #[.int .i64 2, .string (s.extract k r), .int .i64 k], .int .i64 r]) (by simp [results, Tryz.results172, go_sem]) rfl ?_
  exact ⟨⟨⟨2, s.extract k r, k⟩, by rw [HO.out.1]; rfl, fun _ => HO.out.2.symm⟩, by go_grown⟩
set_option maxRecDepth 100000 in
set_option maxHeartbeats 2000000 in
theorem one_digit (s : ByteArray) (hs : s.size ≤ 1073741824) (k : Nat) (hk : k < s.size) (w : World) (c1 : ¬ (97 ≤ byt s k ∧ byt s k ≤ 122)) (c2 : ¬ (65 ≤ byt s k ∧ byt s k ≤ 90)) (c3 : 48 ≤ byt s k ∧ byt s k ≤ 57) :
    Calls Tryz.prog 172 #[.string s, .int .i64 k] w (OneSays s k w) := by
  have hk' : (k : Int) < (s.size : Nat) := by omega
  have hwk : IntKind.i64.wrap ((k : Int) + 1) = (k : Int) + 1 := IntWalk.i64_in _ (by omega)
  have hcl := s[k].toNat_lt
  have HS := Lib.hid (fun w => tokSmall_any s[k] w)
  have HG := Lib.hid (fun w => tokGreat_any s[k] w)
  have HD := Lib.hid (fun w => tokDigit_any s[k] w)
  rw [small_iff s k hk] at HS
  rw [great_iff s k hk] at HG
  rw [digit_iff s k hk] at HD
  rw [(show decide (97 ≤ byt s k ∧ byt s k ≤ 122) = false from decide_eq_false c1)] at HS
  rw [(show decide (65 ≤ byt s k ∧ byt s k ≤ 90) = false from decide_eq_false c2)] at HG
  rw [decide_eq_true c3] at HD
  have HW := Lib.hid (fun w => whileDigit_any s hs k (by omega) w)
  have h1 := runTo_ge digitB s k
  have h2 := runTo_le (p := digitB) (s := s) (k := k) (by omega)
  have HO := Lib.hid (oneTok_of (s := s) (k := k) (r := runTo digitB s k) (n := 5) (by unfold oneKind; simp only [*, if_true, if_false, and_self]) (by decide))
  unfold OneSays
  generalize runTo digitB s k = r at HW h1 h2 HO
  have h1' : (k : Int) ≤ (r : Nat) := by omega
  have h2' : (r : Int) ≤ (s.size : Nat) := by omega
  go_enter Tryz.func172, Tryz.ntmps172
  go_wp2_with (first | (go_at_call 127; refine (HS.out _).mono ?_; rintro e w' ⟨rfl, rfl⟩) | (go_at_call 161; refine (HG.out _).mono ?_; rintro e w' ⟨rfl, rfl⟩) | (go_at_call 162; refine (HD.out _).mono ?_; rintro e w' ⟨rfl, rfl⟩) | (go_at_call 122; refine (HW.out _).mono ?_; rintro e w' ⟨rfl, rfl⟩))
  refine bodyPost_ret (v := .tuple #[.agg #[.int .i64 5, .string (s.extract k r), .int .i64 k], .int .i64 r]) (by simp [results, Tryz.results172, go_sem]) rfl ?_
  exact ⟨⟨⟨5, s.extract k r, k⟩, by rw [HO.out.1]; rfl, fun _ => HO.out.2.symm⟩, by go_grown⟩
set_option maxRecDepth 100000 in
set_option maxHeartbeats 2000000 in
theorem one_dollar1 (s : ByteArray) (hs : s.size ≤ 1073741824) (k : Nat) (hk : k < s.size) (w : World) (c1 : ¬ (97 ≤ byt s k ∧ byt s k ≤ 122)) (c2 : ¬ (65 ≤ byt s k ∧ byt s k ≤ 90)) (c3 : ¬ (48 ≤ byt s k ∧ byt s k ≤ 57)) (c4 : byt s k = 36) (hk1 : k + 1 < s.size) (c5 : 97 ≤ byt s (k + 1) ∧ byt s (k + 1) ≤ 122) :
    Calls Tryz.prog 172 #[.string s, .int .i64 k] w (OneSays s k w) := by
  have hk' : (k : Int) < (s.size : Nat) := by omega
  have hwk : IntKind.i64.wrap ((k : Int) + 1) = (k : Int) + 1 := IntWalk.i64_in _ (by omega)
  have hcl := s[k].toNat_lt
  have HS := Lib.hid (fun w => tokSmall_any s[k] w)
  have HG := Lib.hid (fun w => tokGreat_any s[k] w)
  have HD := Lib.hid (fun w => tokDigit_any s[k] w)
  rw [small_iff s k hk] at HS
  rw [great_iff s k hk] at HG
  rw [digit_iff s k hk] at HD
  rw [(show decide (97 ≤ byt s k ∧ byt s k ≤ 122) = false from decide_eq_false c1)] at HS
  rw [(show decide (65 ≤ byt s k ∧ byt s k ≤ 90) = false from decide_eq_false c2)] at HG
  rw [(show decide (48 ≤ byt s k ∧ byt s k ≤ 57) = false from decide_eq_false c3)] at HD
  have HW := Lib.hid (fun w => whileWord_any s hs (k + 1) (by omega) w)
  rw [show ((k + 1 : Nat) : Int) = (k : Int) + 1 by omega] at HW
  have HS2 := Lib.hid (fun w => tokSmall_any s[k + 1] w)
  rw [small_iff s (k + 1) hk1, decide_eq_true c5] at HS2
  have h1 := runTo_ge letterB s (k + 1)
  have h2 := runTo_le (p := letterB) (s := s) (k := k + 1) (by omega)
  have HO := Lib.hid (oneTok_of (s := s) (k := k) (r := runTo letterB s (k + 1)) (n := 3) (by unfold oneKind; rw [if_neg c1, if_neg c2, if_neg c3, if_pos c4, if_pos c5]) (by decide))
  have d4 : ((s[k].toNat : Int) == 36) = true := by rw [beq_iff_eq, ← byt_of hk]; exact c4
  have d5 : decide ((k : Int) + 1 < (s.size : Nat)) = true := decide_eq_true (by omega)
  have d6 : (k : Int) + 1 < (s.size : Nat) := by omega
  unfold OneSays
  generalize runTo letterB s (k + 1) = r at HW h1 h2 HO
  have h1' : (k : Int) ≤ (r : Nat) := by omega
  have h2' : (r : Int) ≤ (s.size : Nat) := by omega
  clear c1 c2 c3 c4 c5
  go_enter Tryz.func172, Tryz.ntmps172
  go_wp2_with (first | (go_at_call 127; with_reducible refine (HS2.out _).mono ?_; rintro e w' ⟨rfl, rfl⟩) | (go_at_call 127; refine (HS.out _).mono ?_; rintro e w' ⟨rfl, rfl⟩) | (go_at_call 161; refine (HG.out _).mono ?_; rintro e w' ⟨rfl, rfl⟩) | (go_at_call 162; refine (HD.out _).mono ?_; rintro e w' ⟨rfl, rfl⟩) | (go_at_call 122; refine (HW.out _).mono ?_; rintro e w' ⟨rfl, rfl⟩))
  refine bodyPost_ret (v := .tuple #[.agg #[.int .i64 3, .string (s.extract k r), .int .i64 k], .int .i64 r]) (by simp [results, Tryz.results172, go_sem]) rfl ?_
  exact ⟨⟨⟨3, s.extract k r, k⟩, by rw [HO.out.1]; rfl, fun _ => HO.out.2.symm⟩, by go_grown⟩
set_option maxRecDepth 100000 in
set_option maxHeartbeats 2000000 in
theorem one_dollar2 (s : ByteArray) (hs : s.size ≤ 1073741824) (k : Nat) (hk : k < s.size) (w : World) (c1 : ¬ (97 ≤ byt s k ∧ byt s k ≤ 122)) (c2 : ¬ (65 ≤ byt s k ∧ byt s k ≤ 90)) (c3 : ¬ (48 ≤ byt s k ∧ byt s k ≤ 57)) (c4 : byt s k = 36) (hk1 : k + 1 < s.size) (c5 : ¬ (97 ≤ byt s (k + 1) ∧ byt s (k + 1) ≤ 122)) :
    Calls Tryz.prog 172 #[.string s, .int .i64 k] w (OneSays s k w) := by
  have hk' : (k : Int) < (s.size : Nat) := by omega
  have hwk : IntKind.i64.wrap ((k : Int) + 1) = (k : Int) + 1 := IntWalk.i64_in _ (by omega)
  have hcl := s[k].toNat_lt
  have HS := Lib.hid (fun w => tokSmall_any s[k] w)
  have HG := Lib.hid (fun w => tokGreat_any s[k] w)
  have HD := Lib.hid (fun w => tokDigit_any s[k] w)
  rw [small_iff s k hk] at HS
  rw [great_iff s k hk] at HG
  rw [digit_iff s k hk] at HD
  rw [(show decide (97 ≤ byt s k ∧ byt s k ≤ 122) = false from decide_eq_false c1)] at HS
  rw [(show decide (65 ≤ byt s k ∧ byt s k ≤ 90) = false from decide_eq_false c2)] at HG
  rw [(show decide (48 ≤ byt s k ∧ byt s k ≤ 57) = false from decide_eq_false c3)] at HD
  have HS2 := Lib.hid (fun w => tokSmall_any s[k + 1] w)
  rw [small_iff s (k + 1) hk1, (show decide (97 ≤ byt s (k + 1) ∧ byt s (k + 1) ≤ 122) = false from decide_eq_false c5)] at HS2
  have HO := Lib.hid (oneTok_of (s := s) (k := k) (r := k) (n := 3) (by unfold oneKind; rw [if_neg c1, if_neg c2, if_neg c3, if_pos c4, if_neg c5]) (by decide))
  have d4 : ((s[k].toNat : Int) == 36) = true := by rw [beq_iff_eq, ← byt_of hk]; exact c4
  have d5 : decide ((k : Int) + 1 < (s.size : Nat)) = true := decide_eq_true (by omega)
  have d6 : (k : Int) + 1 < (s.size : Nat) := by omega
  unfold OneSays
  clear c1 c2 c3 c4 c5
  have hsl := fun w => slice_to s k k k k rfl rfl (Nat.le_refl _) (by omega) w
  generalize s.extract k k = tx at hsl
  go_enter Tryz.func172, Tryz.ntmps172
  go_wp2_with (first | (go_at_call 127; with_reducible refine (HS2.out _).mono ?_; rintro e w' ⟨rfl, rfl⟩) | (go_at_call 127; refine (HS.out _).mono ?_; rintro e w' ⟨rfl, rfl⟩) | (go_at_call 161; refine (HG.out _).mono ?_; rintro e w' ⟨rfl, rfl⟩) | (go_at_call 162; refine (HD.out _).mono ?_; rintro e w' ⟨rfl, rfl⟩))
  refine bodyPost_ret (v := .tuple #[.agg #[.int .i64 3, .string tx, .int .i64 k], .int .i64 k]) (by simp [results, Tryz.results172, go_sem]) rfl ?_
  exact ⟨⟨⟨3, tx, k⟩, by rw [HO.out.1]; rfl, fun h => by rw [HO.out.1] at h; exact absurd h (Nat.lt_irrefl _)⟩, by go_grown⟩
set_option maxRecDepth 100000 in
set_option maxHeartbeats 2000000 in
theorem one_dollar3 (s : ByteArray) (hs : s.size ≤ 1073741824) (k : Nat) (hk : k < s.size) (w : World) (c1 : ¬ (97 ≤ byt s k ∧ byt s k ≤ 122)) (c2 : ¬ (65 ≤ byt s k ∧ byt s k ≤ 90)) (c3 : ¬ (48 ≤ byt s k ∧ byt s k ≤ 57)) (c4 : byt s k = 36) (hk1 : ¬ k + 1 < s.size) (c5 : ¬ (97 ≤ byt s (k + 1) ∧ byt s (k + 1) ≤ 122)) :
    Calls Tryz.prog 172 #[.string s, .int .i64 k] w (OneSays s k w) := by
  have hk' : (k : Int) < (s.size : Nat) := by omega
  have hwk : IntKind.i64.wrap ((k : Int) + 1) = (k : Int) + 1 := IntWalk.i64_in _ (by omega)
  have hcl := s[k].toNat_lt
  have HS := Lib.hid (fun w => tokSmall_any s[k] w)
  have HG := Lib.hid (fun w => tokGreat_any s[k] w)
  have HD := Lib.hid (fun w => tokDigit_any s[k] w)
  rw [small_iff s k hk] at HS
  rw [great_iff s k hk] at HG
  rw [digit_iff s k hk] at HD
  rw [(show decide (97 ≤ byt s k ∧ byt s k ≤ 122) = false from decide_eq_false c1)] at HS
  rw [(show decide (65 ≤ byt s k ∧ byt s k ≤ 90) = false from decide_eq_false c2)] at HG
  rw [(show decide (48 ≤ byt s k ∧ byt s k ≤ 57) = false from decide_eq_false c3)] at HD
  have HO := Lib.hid (oneTok_of (s := s) (k := k) (r := k) (n := 3) (by unfold oneKind; rw [if_neg c1, if_neg c2, if_neg c3, if_pos c4, if_neg c5]) (by decide))
  have d4 : ((s[k].toNat : Int) == 36) = true := by rw [beq_iff_eq, ← byt_of hk]; exact c4
  have d5 : decide ((k : Int) + 1 < (s.size : Nat)) = false := decide_eq_false (by omega)
  unfold OneSays
  clear c1 c2 c3 c4 c5
  have hsl := fun w => slice_to s k k k k rfl rfl (Nat.le_refl _) (by omega) w
  generalize s.extract k k = tx at hsl
  go_enter Tryz.func172, Tryz.ntmps172
  go_wp2_with (first | (go_at_call 127; refine (HS.out _).mono ?_; rintro e w' ⟨rfl, rfl⟩) | (go_at_call 161; refine (HG.out _).mono ?_; rintro e w' ⟨rfl, rfl⟩) | (go_at_call 162; refine (HD.out _).mono ?_; rintro e w' ⟨rfl, rfl⟩))
  refine bodyPost_ret (v := .tuple #[.agg #[.int .i64 3, .string tx, .int .i64 k], .int .i64 k]) (by simp [results, Tryz.results172, go_sem]) rfl ?_
  exact ⟨⟨⟨3, tx, k⟩, by rw [HO.out.1]; rfl, fun h => by rw [HO.out.1] at h; exact absurd h (Nat.lt_irrefl _)⟩, by go_grown⟩
set_option maxRecDepth 100000 in
set_option maxHeartbeats 2000000 in
theorem one_quote1 (s : ByteArray) (hs : s.size ≤ 1073741824) (k : Nat) (hk : k < s.size) (w : World) (c1 : ¬ (97 ≤ byt s k ∧ byt s k ≤ 122)) (c2 : ¬ (65 ≤ byt s k ∧ byt s k ≤ 90)) (c3 : ¬ (48 ≤ byt s k ∧ byt s k ≤ 57)) (c4 : byt s k = 39) (c5 : k < quotedEnd s k) :
    Calls Tryz.prog 172 #[.string s, .int .i64 k] w (OneSays s k w) := by
  have hk' : (k : Int) < (s.size : Nat) := by omega
  have hwk : IntKind.i64.wrap ((k : Int) + 1) = (k : Int) + 1 := IntWalk.i64_in _ (by omega)
  have hcl := s[k].toNat_lt
  have HS := Lib.hid (fun w => tokSmall_any s[k] w)
  have HG := Lib.hid (fun w => tokGreat_any s[k] w)
  have HD := Lib.hid (fun w => tokDigit_any s[k] w)
  rw [small_iff s k hk] at HS
  rw [great_iff s k hk] at HG
  rw [digit_iff s k hk] at HD
  rw [(show decide (97 ≤ byt s k ∧ byt s k ≤ 122) = false from decide_eq_false c1)] at HS
  rw [(show decide (65 ≤ byt s k ∧ byt s k ≤ 90) = false from decide_eq_false c2)] at HG
  rw [(show decide (48 ≤ byt s k ∧ byt s k ≤ 57) = false from decide_eq_false c3)] at HD
  have HW := Lib.hid (fun w => tokQuoted_any s hs k hk w)
  have hq2 := @quotedEnd_two s k
  have hq1 := quotedEnd_le hk
  have hq0 := quotedEnd_ge s k
  have HO := Lib.hid (oneTok_four (s := s) (k := k) (r := quotedEnd s k) (by unfold oneKind; rw [if_neg c1, if_neg c2, if_neg c3, if_neg (by omega), if_pos c4]))
  have d4 : ((s[k].toNat : Int) == 36) = false := by rw [beq_eq_false_iff_ne, ← byt_of hk]; omega
  have d5 : ((s[k].toNat : Int) == 39) = true := by rw [beq_iff_eq, ← byt_of hk]; exact c4
  unfold OneSays
  generalize quotedEnd s k = r at *
  clear c1 c2 c3 c4
  have h2 := hq2 c5
  have d6 : decide ((k : Int) < (r : Nat)) = true := decide_eq_true (by omega)
  have d7 : (k : Int) + 1 ≤ (r : Int) - 1 := by omega
  have d8 : (r : Int) - 1 ≤ (s.size : Nat) := by omega
  have d9 : IntKind.i64.wrap ((r : Int) - 1) = (r : Int) - 1 := IntWalk.i64_in _ (by omega)
  have d10 : ((r : Int) - 1).toNat = r - 1 := by omega
  have d11 : ((k : Int) + 1).toNat = k + 1 := by omega
  have hsl := fun w => slice_to s (k + 1) (r - 1) ((k : Int) + 1) ((r : Int) - 1) (by omega) (by omega) (by omega) (by omega) w
  generalize s.extract (k + 1) (r - 1) = tx at hsl HO
  clear hq2 d10 d11 d7 d8
  go_enter Tryz.func172, Tryz.ntmps172
  go_wp2_with (first | (go_at_call 190; refine (HW.out _).mono ?_; rintro e w' ⟨rfl, rfl⟩) | (go_at_call 127; refine (HS.out _).mono ?_; rintro e w' ⟨rfl, rfl⟩) | (go_at_call 161; refine (HG.out _).mono ?_; rintro e w' ⟨rfl, rfl⟩) | (go_at_call 162; refine (HD.out _).mono ?_; rintro e w' ⟨rfl, rfl⟩))
  refine bodyPost_ret (v := .tuple #[.agg #[.int .i64 4, .string (tx), .int .i64 k], .int .i64 r]) (by simp [results, Tryz.results172, go_sem]) rfl ?_
  exact ⟨⟨⟨4, tx, k⟩, by rw [HO.out.1]; rfl, fun _ => HO.out.2.symm⟩, by go_grown⟩
set_option maxRecDepth 100000 in
set_option maxHeartbeats 2000000 in
theorem one_quote2 (s : ByteArray) (hs : s.size ≤ 1073741824) (k : Nat) (hk : k < s.size) (w : World) (c1 : ¬ (97 ≤ byt s k ∧ byt s k ≤ 122)) (c2 : ¬ (65 ≤ byt s k ∧ byt s k ≤ 90)) (c3 : ¬ (48 ≤ byt s k ∧ byt s k ≤ 57)) (c4 : byt s k = 39) (c5 : ¬ k < quotedEnd s k) :
    Calls Tryz.prog 172 #[.string s, .int .i64 k] w (OneSays s k w) := by
  have hk' : (k : Int) < (s.size : Nat) := by omega
  have hwk : IntKind.i64.wrap ((k : Int) + 1) = (k : Int) + 1 := IntWalk.i64_in _ (by omega)
  have hcl := s[k].toNat_lt
  have HS := Lib.hid (fun w => tokSmall_any s[k] w)
  have HG := Lib.hid (fun w => tokGreat_any s[k] w)
  have HD := Lib.hid (fun w => tokDigit_any s[k] w)
  rw [small_iff s k hk] at HS
  rw [great_iff s k hk] at HG
  rw [digit_iff s k hk] at HD
  rw [(show decide (97 ≤ byt s k ∧ byt s k ≤ 122) = false from decide_eq_false c1)] at HS
  rw [(show decide (65 ≤ byt s k ∧ byt s k ≤ 90) = false from decide_eq_false c2)] at HG
  rw [(show decide (48 ≤ byt s k ∧ byt s k ≤ 57) = false from decide_eq_false c3)] at HD
  have HW := Lib.hid (fun w => tokQuoted_any s hs k hk w)
  have hq2 := @quotedEnd_two s k
  have hq1 := quotedEnd_le hk
  have hq0 := quotedEnd_ge s k
  have HO := Lib.hid (oneTok_four (s := s) (k := k) (r := quotedEnd s k) (by unfold oneKind; rw [if_neg c1, if_neg c2, if_neg c3, if_neg (by omega), if_pos c4]))
  have d4 : ((s[k].toNat : Int) == 36) = false := by rw [beq_eq_false_iff_ne, ← byt_of hk]; omega
  have d5 : ((s[k].toNat : Int) == 39) = true := by rw [beq_iff_eq, ← byt_of hk]; exact c4
  unfold OneSays
  generalize quotedEnd s k = r at *
  clear c1 c2 c3 c4
  have d6 : decide ((k : Int) < (r : Nat)) = false := decide_eq_false (by omega)
  clear hq2
  go_enter Tryz.func172, Tryz.ntmps172
  go_wp2_with (first | (go_at_call 190; refine (HW.out _).mono ?_; rintro e w' ⟨rfl, rfl⟩) | (go_at_call 127; refine (HS.out _).mono ?_; rintro e w' ⟨rfl, rfl⟩) | (go_at_call 161; refine (HG.out _).mono ?_; rintro e w' ⟨rfl, rfl⟩) | (go_at_call 162; refine (HD.out _).mono ?_; rintro e w' ⟨rfl, rfl⟩))
  refine bodyPost_ret (v := .tuple #[.agg #[.int .i64 4, .string (⟨#[]⟩), .int .i64 k], .int .i64 r]) (by simp [results, Tryz.results172, go_sem]) rfl ?_
  exact ⟨⟨⟨4, ⟨#[]⟩, k⟩, by rw [HO.out.1]; rfl, fun h => by rw [HO.out.1] at h; exact absurd h c5⟩, by go_grown⟩
set_option maxRecDepth 100000 in
set_option maxHeartbeats 2000000 in
theorem one_sign (s : ByteArray) (hs : s.size ≤ 1073741824) (k : Nat) (hk : k < s.size) (w : World) (c1 : ¬ (97 ≤ byt s k ∧ byt s k ≤ 122)) (c2 : ¬ (65 ≤ byt s k ∧ byt s k ≤ 90)) (c3 : ¬ (48 ≤ byt s k ∧ byt s k ≤ 57)) (c4 : ¬ byt s k = 36) (c5 : ¬ byt s k = 39) :
    Calls Tryz.prog 172 #[.string s, .int .i64 k] w (OneSays s k w) := by
  have hk' : (k : Int) < (s.size : Nat) := by omega
  have hwk : IntKind.i64.wrap ((k : Int) + 1) = (k : Int) + 1 := IntWalk.i64_in _ (by omega)
  have hcl := s[k].toNat_lt
  have HS := Lib.hid (fun w => tokSmall_any s[k] w)
  have HG := Lib.hid (fun w => tokGreat_any s[k] w)
  have HD := Lib.hid (fun w => tokDigit_any s[k] w)
  rw [small_iff s k hk] at HS
  rw [great_iff s k hk] at HG
  rw [digit_iff s k hk] at HD
  rw [(show decide (97 ≤ byt s k ∧ byt s k ≤ 122) = false from decide_eq_false c1)] at HS
  rw [(show decide (65 ≤ byt s k ∧ byt s k ≤ 90) = false from decide_eq_false c2)] at HG
  rw [(show decide (48 ≤ byt s k ∧ byt s k ≤ 57) = false from decide_eq_false c3)] at HD
  have hsz : (s.extract k s.size).size = s.size - k := by simp
  have hsl := signLen_le (s.data.toList.drop k)
  rw [show (s.data.toList.drop k).length = s.size - k by simp] at hsl
  have HX := Lib.hid (fun w => tokSign_any (s.extract k s.size) (by omega) (by omega) w)
  rw [Lib.extract_to_end] at HX
  have HO := Lib.hid (oneTok_of (s := s) (k := k) (r := k + signLen (s.data.toList.drop k)) (n := 6) (by unfold oneKind; rw [if_neg c1, if_neg c2, if_neg c3, if_neg c4, if_neg c5]) (by decide))
  have d4 : ((s[k].toNat : Int) == 36) = false := by rw [beq_eq_false_iff_ne, ← byt_of hk]; exact c4
  have d5 : ((s[k].toNat : Int) == 39) = false := by rw [beq_eq_false_iff_ne, ← byt_of hk]; exact c5
  unfold OneSays
  generalize signLen (s.data.toList.drop k) = n at HX hsl HO
  have hn : (k : Int) + (n : Nat) ≤ (s.size : Nat) := by omega
  have hn0 : (0 : Int) ≤ (n : Nat) := by omega
  have hsl2 := fun w => slice_to s k (k + n) (k : Int) ((k : Int) + (n : Nat)) rfl (by omega) (by omega) (by omega) w
  generalize s.extract k (k + n) = tx at hsl2 HO
  have hwn : IntKind.i64.wrap ((k : Int) + (n : Nat)) = (k : Int) + (n : Nat) := IntWalk.i64_in _ (by omega)
  clear c1 c2 c3 c4 c5 hsl
  obtain ⟨W, hW⟩ : ∃ W, W = w.alloc (.cells #[.int .i64 0, .string ⟨#[]⟩, .int .i64 k] 77) := ⟨_, rfl⟩
  have hx : Ext w W := by subst hW; go_grown
  have ho := own3 w (.int .i64 0) (.string ⟨#[]⟩) (.int .i64 k) 77
  rw [← hW] at ho
  go_enter Tryz.func172, Tryz.ntmps172
  go_wp2_with (first | (go_at_call 191; rw [← hW]; clear hW; refine (HX.out _).mono ?_; rintro e w' ⟨rfl, hw'⟩; have ho1 := ho.ext hw'; obtain ⟨t0, u0⟩ := ho1 0 _ rfl; obtain ⟨t1, u1⟩ := ho1 1 _ rfl; obtain ⟨t2, u2⟩ := ho1 2 _ rfl) | (go_at_call 127; refine (HS.out _).mono ?_; rintro e w' ⟨rfl, rfl⟩) | (go_at_call 161; refine (HG.out _).mono ?_; rintro e w' ⟨rfl, rfl⟩) | (go_at_call 162; refine (HD.out _).mono ?_; rintro e w' ⟨rfl, rfl⟩))
  have hf := ((((ho1.set (i := 0) (by simp) (.int .i64 6)).set (i := 1) (by simp) (.string tx)).set (i := 0) (by simp) (.int .i64 6)).set (i := 1) (by simp) (.string tx)).set (i := 2) (by simp) (.int .i64 k)
  have r0 := (hf 0 (.int .i64 6) rfl).1
  have r1 := (hf 1 (.string tx) rfl).1
  have r2 := (hf 2 (.int .i64 k) rfl).1
  refine bodyPost_ret (v := .tuple #[.agg #[.int .i64 6, .string tx, .int .i64 k], .int .i64 ((k : Int) + (n : Nat))]) (by simp [results, Tryz.results172, go_sem, r0, r1, r2]) rfl ?_
  refine ⟨⟨⟨6, tx, k⟩, by rw [HO.out.1]; rfl, fun _ => HO.out.2.symm⟩, Chg.ext (S := [w.heap.size]) (hx.trans hw') ?_ (by simp)⟩
  exact (((((Chg.refl _ _).setCell _ (.inl (by simp))).setCell _ (.inl (by simp))).setCell _ (.inl (by simp))).setCell _ (.inl (by simp))).setCell _ (.inl (by simp))
theorem token_any (s : ByteArray) (hs : s.size ≤ 1073741824) (k : Nat) (hk : k < s.size) (w : World) : Calls Tryz.prog 172 #[.string s, .int .i64 k] w (OneSays s k w) := by
  by_cases c1 : 97 ≤ byt s k ∧ byt s k ≤ 122
  · exact one_small s hs k hk w c1
  by_cases c2 : 65 ≤ byt s k ∧ byt s k ≤ 90
  · exact one_great s hs k hk w c1 c2
  by_cases c3 : 48 ≤ byt s k ∧ byt s k ≤ 57
  · exact one_digit s hs k hk w c1 c2 c3
  by_cases c4 : byt s k = 36
  · by_cases h1 : k + 1 < s.size
    · by_cases c5 : 97 ≤ byt s (k + 1) ∧ byt s (k + 1) ≤ 122
      · exact one_dollar1 s hs k hk w c1 c2 c3 c4 h1 c5
      · exact one_dollar2 s hs k hk w c1 c2 c3 c4 h1 c5
    · exact one_dollar3 s hs k hk w c1 c2 c3 c4 h1 (by rw [byt_none (by omega)]; omega)
  by_cases c5 : byt s k = 39
  · by_cases h1 : k < quotedEnd s k
    · exact one_quote1 s hs k hk w c1 c2 c3 c5 h1
    · exact one_quote2 s hs k hk w c1 c2 c3 c5 h1
  · exact one_sign s hs k hk w c1 c2 c3 c4 c5
end Go.Proofs.YtnclgkdpafhogaaGreat
