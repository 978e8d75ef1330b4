/- What the reference's insert, Join, Vars of layer 2 return. -/
import Derived.Test.YtoidhdcbemmfhaaDoorRow2
namespace Go.Proofs.YtoidhdcbemmfhaaDoor
open Go.ChangeShapes Go.WideShapes Go.ChangeAt Go.RowKit

def insStep (v : Int) (st : Bool × List Int) (x : Int) : Bool × List Int := if v < x ∧ st.1 = false then (true, (st.2 ++ [v]) ++ [x]) else (st.1, st.2 ++ [x])
def ins (l : List Int) (v : Int) : List Int :=
  if v ∈ l then l else if (l.foldl (insStep v) (false, [])).1 then (l.foldl (insStep v) (false, [])).2 else (l.foldl (insStep v) (false, [])).2 ++ [v]

theorem fold_take {β : Type} {f : β → Int → β} {z : β} {l : List Int} {k : Nat} (h : k < l.length) : (l.take (k + 1)).foldl f z = f ((l.take k).foldl f z) l[k] := by
  rw [List.take_succ_eq_append_getElem h, List.foldl_append]; rfl
theorem insFold_length (v : Int) (l : List Int) : ∀ st : Bool × List Int, (l.foldl (insStep v) st).2.length + (if st.1 then 1 else 0) = st.2.length + l.length + (if (l.foldl (insStep v) st).1 then 1 else 0) := by
  induction l with
  | nil => intro st; rfl
  | cons x l ih =>
    intro st
    have h0 := ih (insStep v st x)
    rw [List.foldl_cons]
    by_cases h : v < x ∧ st.1 = false
    · have e : insStep v st x = (true, (st.2 ++ [v]) ++ [x]) := by unfold insStep; rw [if_pos h]
      rw [e] at h0 ⊢
      rw [h.2]
      simp at h0 ⊢
      omega
    · have e : insStep v st x = (st.1, st.2 ++ [x]) := by unfold insStep; rw [if_neg h]
      rw [e] at h0 ⊢
      simp at h0 ⊢
      omega

set_option maxHeartbeats 1000000 in
set_option maxRecDepth 100000 in
theorem insert_any (l : List Int) (v : Int) (hv1 : -9223372036854775808 ≤ v) (hv2 : v ≤ 9223372036854775807) (w : World) (a : Option Addr) (c : Nat) (hl : IsInts w a l) (hlc : l.length ≤ c) (hll : l.length ≤ 4000000) :
    Calls Tryd.prog 110 #[.slice a l.length c, .int .i64 v] w fun e w' => (∃ a' c', e = .returned (.slice a' (ins l v).length c') ∧ (ins l v).length ≤ c' ∧ IsInts w' a' (ins l v)) ∧ Ext w w' := by
  obtain ⟨i0, hi0, hz0, hz1, hz2⟩ := info_parts infoInt
  go_enter Tryd.func110, Tryd.ntmps110
  go_wp2_with fail
  go_loopw [5, 6, 7] (fun o d i wr => ∃ (k : Nat) (dn : Bool) (m : List Int), k ≤ l.length ∧ i = .int .i64 k ∧ d = .bool dn ∧ (l.take k).foldl (insStep v) (false, []) = (dn, m) ∧ v ∉ l.take k ∧ GRow eltInt 3 w.heap.size wr o m ∧ Ext w wr) (fun _ _ i _ => l.length - (intOf i).toNat)
  case atStart => exact ⟨0, false, [], Nat.zero_le _, rfl, rfl, rfl, by simp, GRow.nil, Below.refl _ _⟩
  case round =>
    obtain ⟨k, dn, m, hkk, rfl, rfl, hfold, hnot, hrow, hext⟩ := hrel
    have hlen := insFold_length v (l.take k) (false, [])
    rw [hfold] at hlen
    have hml : m.length ≤ l.length + 1 := by simp only [List.length_take] at hlen; cases dn <;> simp at hlen <;> omega
    have Hlen := Lib.hid hlen; clear hlen
    have Hfold := Lib.hid hfold; clear hfold
    have Hnot := Lib.hid hnot; clear hnot
    by_cases hlt : k < l.length
    · have hk1 : (k : Int) < l.length := by omega
      obtain ⟨r1, r2, b, o', rfl, h1⟩ := hl k hlt
      have g1 := hext.cell h1
      have hstep := fold_take (f := insStep v) (z := (false, [])) hlt
      rw [Hfold.out] at hstep
      by_cases he : l[k] = v
      · have hmem : v ∈ l := by rw [← he]; exact List.getElem_mem hlt
        have hins : ins l v = l := by unfold ins; rw [if_pos hmem]
        have Hins := Lib.hid hins; clear hins hmem hstep
        go_wp2_with fail
        go_ret
        rw [Hins.out]
        exact ⟨⟨_, _, rfl, hlc, hl.ext hext⟩, hext⟩
      · have hnot' : v ∉ l.take (k + 1) := by
          rw [List.take_succ_eq_append_getElem hlt]
          intro hm
          rcases List.mem_append.1 hm with hm | hm
          · exact Hnot.out hm
          · simp at hm; exact he hm.symm
        have Hnot' := Lib.hid hnot'; clear hnot'
        obtain ⟨ao, co, rfl, hmc⟩ := hrow.form
        cases dn with
        | true =>
          have e : insStep v (true, m) l[k] = (true, m ++ [l[k]]) := by unfold insStep; rw [if_neg (by simp)]
          rw [e] at hstep
          have Hstep := Lib.hid hstep; clear hstep e
          by_cases hgt : v < l[k]
          all_goals
            go_wp2_with ((at_builtin; refine wpList_append_row rfl _ _ _ rfl 3 i0 _ 8 Tryd.underlying40 hi0 hz0 hz1 hz2 rfl (by decide) w.heap.size (.slice ao m.length co) m rfl wr hrow (ext_alloc _ _) wr.heap.size rfl _ _ (heap_alloc_new _ _) l[k] ⟨rfl, r1, r2⟩ (by simp only [maxLen, List.length_append, List.length_cons, List.length_nil]; omega) (by (try simp only [List.length_append, List.length_cons, List.length_nil]); omega) (by have := hext.size; simp; omega) ?_; intro g2 cap2 w2 hrow2 hgrow2 hat2 hlt2; have hx2 := Ext.append hext hrow (ext_alloc _ _) hgrow2; (try simp only [List.length_append, List.length_cons, List.length_nil, Nat.zero_add] at hrow2); (try simp only [List.length_append, List.length_cons, List.length_nil, Nat.zero_add])))
            go_roundw
            case rel => exact ⟨k + 1, true, m ++ [l[k]], by omega, by go_num, rfl, Hstep.out, Hnot'.out, hrow2, hx2⟩
            case measure => simp [intOf]; omega
        | false =>
          by_cases hgt : v < l[k]
          · have e : insStep v (false, m) l[k] = (true, (m ++ [v]) ++ [l[k]]) := by unfold insStep; rw [if_pos ⟨hgt, rfl⟩]
            rw [e] at hstep
            have Hstep := Lib.hid hstep; clear hstep e
            go_wp2_with (first | (((at_builtin; refine wpList_append_row rfl _ _ _ rfl 3 i0 _ 8 Tryd.underlying40 hi0 hz0 hz1 hz2 rfl (by decide) w.heap.size (.slice ao m.length co) m rfl wr hrow (ext_alloc _ _) wr.heap.size rfl _ _ (heap_alloc_new _ _) v ⟨rfl, hv1, hv2⟩ (by simp only [maxLen, List.length_append, List.length_cons, List.length_nil]; omega) (by (try simp only [List.length_append, List.length_cons, List.length_nil]); omega) (by have := hext.size; simp; omega) ?_; intro g2 cap2 w2 hrow2 hgrow2 hat2 hlt2; have hx2 := Ext.append hext hrow (ext_alloc _ _) hgrow2; (try simp only [List.length_append, List.length_cons, List.length_nil, Nat.zero_add] at hrow2); (try simp only [List.length_append, List.length_cons, List.length_nil, Nat.zero_add]))); have gg := hx2.cell h1) | (at_builtin; refine wpList_append_row rfl _ _ _ rfl 3 i0 _ 8 Tryd.underlying40 hi0 hz0 hz1 hz2 rfl (by decide) w.heap.size (.slice (some ⟨g2, 0, none⟩) (m.length + 1) cap2) (m ++ [v]) rfl w2 hrow2 (ext_alloc _ _) w2.heap.size rfl _ _ (heap_alloc_new _ _) l[k] ⟨rfl, r1, r2⟩ (by simp [maxLen]; omega) (by simp; omega) (by have := hx2.size; simp; omega) ?_; intro g3 cap3 w3 hrow3 hgrow3 hat3 hlt3; have hx3 := Ext.append hx2 hrow2 (ext_alloc _ _) hgrow3; simp only [List.length_append, List.length_cons, List.length_nil, Nat.zero_add] at hrow3 ⊢))
            go_roundw
            case rel => exact ⟨k + 1, true, (m ++ [v]) ++ [l[k]], by omega, by go_num, rfl, Hstep.out, Hnot'.out, hrow3, hx3⟩
            case measure => simp [intOf]; omega
          · have e : insStep v (false, m) l[k] = (false, m ++ [l[k]]) := by unfold insStep; rw [if_neg (by simp [hgt])]
            rw [e] at hstep
            have Hstep := Lib.hid hstep; clear hstep e
            go_wp2_with ((at_builtin; refine wpList_append_row rfl _ _ _ rfl 3 i0 _ 8 Tryd.underlying40 hi0 hz0 hz1 hz2 rfl (by decide) w.heap.size (.slice ao m.length co) m rfl wr hrow (ext_alloc _ _) wr.heap.size rfl _ _ (heap_alloc_new _ _) l[k] ⟨rfl, r1, r2⟩ (by simp only [maxLen, List.length_append, List.length_cons, List.length_nil]; omega) (by (try simp only [List.length_append, List.length_cons, List.length_nil]); omega) (by have := hext.size; simp; omega) ?_; intro g2 cap2 w2 hrow2 hgrow2 hat2 hlt2; have hx2 := Ext.append hext hrow (ext_alloc _ _) hgrow2; (try simp only [List.length_append, List.length_cons, List.length_nil, Nat.zero_add] at hrow2); (try simp only [List.length_append, List.length_cons, List.length_nil, Nat.zero_add])))
            go_roundw
            case rel => exact ⟨k + 1, false, m ++ [l[k]], by omega, by go_num, rfl, Hstep.out, Hnot'.out, hrow2, hx2⟩
            case measure => simp [intOf]; omega
    · have hke : k = l.length := by omega
      have h1 := Hfold.out
      have h2 := Hnot.out
      rw [hke, List.take_length] at h1 h2
      obtain ⟨ao, co, rfl, hmc⟩ := hrow.form
      cases dn with
      | true =>
        have hins : ins l v = m := by unfold ins; rw [if_neg h2, h1]; rfl
        have Hins := Lib.hid hins
        clear hins h1 h2
        go_wp2_with fail
        go_ret
        rw [Hins.out]
        obtain ⟨a2, c2, hv, hc, hat⟩ := hrow.ints
        rw [hv]
        exact ⟨⟨_, _, rfl, hc, hat.isInts⟩, hext⟩
      | false =>
        have hins : ins l v = m ++ [v] := by unfold ins; rw [if_neg h2, h1]; rfl
        have Hins := Lib.hid hins
        clear hins h1 h2
        go_wp2_with ((at_builtin; refine wpList_append_row rfl _ _ _ rfl 3 i0 _ 8 Tryd.underlying40 hi0 hz0 hz1 hz2 rfl (by decide) w.heap.size (.slice ao m.length co) m rfl wr hrow (ext_alloc _ _) wr.heap.size rfl _ _ (heap_alloc_new _ _) v ⟨rfl, hv1, hv2⟩ (by simp only [maxLen, List.length_append, List.length_cons, List.length_nil]; omega) (by (try simp only [List.length_append, List.length_cons, List.length_nil]); omega) (by have := hext.size; simp; omega) ?_; intro g2 cap2 w2 hrow2 hgrow2 hat2 hlt2; have hx2 := Ext.append hext hrow (ext_alloc _ _) hgrow2; (try simp only [List.length_append, List.length_cons, List.length_nil, Nat.zero_add] at hrow2); (try simp only [List.length_append, List.length_cons, List.length_nil, Nat.zero_add])))
        go_ret
        rw [Hins.out]
        obtain ⟨a3, c3, hv, hc, hat⟩ := hrow2.ints
        simp only [List.length_append, List.length_cons, List.length_nil, Nat.zero_add] at hv
        rw [hv]
        exact ⟨⟨_, _, by simp, hc, hat.isInts⟩, hx2⟩
end Go.Proofs.YtoidhdcbemmfhaaDoor
