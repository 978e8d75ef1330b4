/- formula.row over names. Condition: a row of at most 2^30 tokens, not empty. -/
import Derived.Test.YtnclgkdpafhogaaGreatQ12
import Derived.Test.YtnclgkdpafhogaaGreatQ3
import Derived.Deep.LoopGhost
import Derived.Deep.Light
namespace Go.Proofs.YtnclgkdpafhogaaGreat
open Go.ChangeShapes Go.WideShapes Go.ChangeAt Go.RowKit
/-- what a reading does: a thing in new memory, and the cursor goes on; or a panic -/
def RdPost {α : Type} (is : (Nat → Prop) → World → Value → α → Prop) (cb : Nat) (l : List Tok) (w : World) (rd : Rd α) (e : Ending) (w' : World) : Prop :=
  Chg [cb] w w' ∧ match rd with
  | .ok x r => Cur cb l w' r ∧ ∃ v, e = .returned v ∧ is (fun g => w.heap.size ≤ g) w' v x
  | .bad r => e = .panicked [wrongV (badAt l r)]
def isStrs (P : Nat → Prop) (w : World) (v : Value) (x : List ByteArray) : Prop := ∃ a c, v = .slice a x.length c ∧ x.length ≤ c ∧ IsStrs P w a x
def strDat (s : ByteArray) : List Dat := [.str s]
theorem infoStr : (Tryz.prog.info? 9).map (fun i => (i.zero, i.size, i.bytes)) = some (some (.string ⟨#[]⟩), 1, 16) := by kernel_rfl
theorem chg_append {α : Type} {E : Elt α} {e B : Nat} {S : List Nat} {w0 w w1 w2 : World} {v : Value} {l : List α} (h : Chg S w0 w) (hr : GRow E e B w v l) (hB : w0.heap.size ≤ B) (hx : Ext w w1) (hg : w1.grownBy w2 v.ownBlock) : Chg S w0 w2 := by
  have h1 := h.trans (Chg.of_ext hx)
  exact ⟨hg.os.trans h1.os, hg.tape.trans h1.tape, hg.output.trans h1.output, Nat.le_trans h1.size hg.size, fun k hk hs => (hg.block k (Nat.lt_of_lt_of_le hk h1.size) (fun e => by have := (hr.own_ge e.symm).1; omega)).trans (h1.block k hk hs)⟩
theorem Cur.append {α : Type} {E : Elt α} {e B cb : Nat} {l ks : List Tok} {w w1 w2 : World} {v : Value} {m : List α} (h : Cur cb l w1 ks) (hr : GRow E e B w v m) (hB : cb < B) (hg : w1.grownBy w2 v.ownBlock) : Cur cb l w2 ks := by
  cases ho : v.ownBlock with
  | none =>
    rw [ho] at hg
    exact h.chg (S := []) (Chg.of_grown hg (by simp)) (by simp)
  | some g =>
    rw [ho] at hg
    have := (hr.own_ge ho).1
    exact h.chg (S := [g]) (Chg.of_grown hg (by simp)) (by simp; omega)
section
variable {cb : Nat} {l : List Tok}
theorem str_el {P : Nat → Prop} {w : World} {s : ByteArray} (hs : s.size ≤ 1073741824) : (eltDat 1).is P w [.string s] (strDat s) := ⟨rfl, ⟨rfl, hs⟩, trivial⟩
theorem name1_any (hl : l.length ≤ 1073741824) (hne : 0 < l.length) {ks : List Tok} {w : World} (pb : Nat) (h : Cur cb l w ks) (hp : w.cell? ⟨pb, 0, none⟩ = some (.pointer (some ⟨cb, 0, none⟩))) :
    Calls Tryz.prog 167 #[.pointer (some ⟨pb, 0, none⟩)] w fun e w' => Chg [cb] w w' ∧ match kindK 2 ks with
      | .ok x r => Cur cb l w' r ∧ e = .returned (.string x)
      | .bad r => e = .panicked [wrongV (badAt l r)] := by
  cases hk : kindK 2 ks with
  | ok x r =>
    have H := Lib.hid (kind_yes hl h hk)
    clear h hk
    go_enter Tryz.func167, Tryz.ntmps167
    go_wp2_with (go_at_call 146; refine (H.out).mono ?_; rintro e w1 ⟨rfl, hc1, hx1⟩)
    go_ret
    exact ⟨hx1, hc1, rfl⟩
  | bad r =>
    have H := Lib.hid (kind_no hl hne h (by decide) hk)
    clear h hk
    go_enter Tryz.func167, Tryz.ntmps167
    go_wp2_with (go_at_call 146; refine (H.out).mono ?_; rintro e w1 ⟨rfl, hx1⟩)
    exact ⟨rfl, Chg.of_ext hx1, rfl⟩
theorem kindK_size {ks : List Tok} (ht : ∀ t ∈ ks, t.ok) {k : Int} {x : ByteArray} {r : List Tok} (h : kindK k ks = .ok x r) : x.size ≤ 1073741824 := by
  obtain ⟨t, rfl, -, rfl⟩ := kind_some h
  exact (ht t (by simp)).2.1
def RowRel (cb : Nat) (l : List Tok) (ks : List Tok) (w : World) (g : Nat) (v : Value) (wr : World) : Prop :=
  ∃ (r : List Tok) (pre : List ByteArray), g = r.length ∧ GRow (eltDat 1) 9 w.heap.size wr v (pre.map strDat) ∧ Cur cb l wr r ∧ Chg [cb] w wr ∧ pre.length + r.length ≤ ks.length ∧ rowR (kindK 2) sComma ks = (more (kindK 2) sComma r).map (pre ++ ·)
set_option maxHeartbeats 4000000 in
set_option maxRecDepth 100000 in
theorem rowS_any (hl : l.length ≤ 1073741824) (hne : 0 < l.length) {ks : List Tok} {w : World} (pb : Nat) (hpb : pb ≠ cb) (h : Cur cb l w ks) (hp : w.cell? ⟨pb, 0, none⟩ = some (.pointer (some ⟨cb, 0, none⟩))) :
    Calls Tryz.prog 166 #[.pointer (some ⟨cb, 0, none⟩), .func (.func 167) #[] #[.pointer (some ⟨pb, 0, none⟩)]] w (RdPost isStrs cb l w (rowR (kindK 2) sComma ks)) := by
  obtain ⟨i0, hi0, hz0, hz1', hz2'⟩ := info_parts infoStr
  have H1 := Lib.hid (name1_any hl hne pb h hp)
  have hcb := h.lt
  cases hk : kindK 2 ks with
  | bad r =>
    have HR := Lib.hid (show rowR (kindK 2) sComma ks = .bad r by unfold rowR; rw [hk]; rfl)
    rw [hk] at H1
    clear hk h
    go_enter Tryz.func166, Tryz.ntmps166
    go_wp2_with (go_at_call 167; refine (H1.out).mono ?_; rintro e w1 ⟨hx1, rfl⟩)
    refine ⟨rfl, hx1, ?_⟩
    rw [HR.out]
  | ok x r =>
    have HX := Lib.hid (kindK_size h.toks hk)
    have HR := Lib.hid (show rowR (kindK 2) sComma ks = (more (kindK 2) sComma r).map ([x] ++ ·) by unfold rowR; rw [hk]; rfl)
    have hrl := kindK_lt hk
    rw [hk] at H1
    clear hk
    go_enter Tryz.func166, Tryz.ntmps166
    go_wp2_with (go_at_call 167; refine (H1.out).mono ?_; rintro e w1 ⟨hx1, hc1, rfl⟩)
    go_loopg [5] r.length (fun g v wr => RowRel cb l ks w g v wr)
    case atStart => exact ⟨r, [x], rfl, GRow.one hx1.size (str_el HX.out) _ rfl, hc1.ext (ext_alloc _ _), hx1.alloc _, by simp; omega, HR.out⟩
    case round =>
      obtain ⟨r, pre, hg, hrow, hc, hx, hlen, heq⟩ := hrel
      have HEQ := Lib.hid heq
      have HG := Lib.hid hg
      have HROW := Lib.hid hrow
      have HML := Lib.hid (show (pre.map strDat).length = pre.length by simp)
      obtain ⟨va, vc, hv, hvc⟩ := hrow.form
      rw [HML.out] at hv hvc
      subst hv
      have HM := Lib.hid (more_eq (one := kindK 2) (sep := sComma) (ks := r) (kindK_shrinks 2 _))
      have hpl : pre.length ≤ 1073741824 := by
        have := hc.1.length_le
        have := h.1.length_le
        omega
      clear heq hg hrow hrl H1
      cases ht : takeS sComma r with
      | none =>
        have HT := Lib.hid (take_no hl hc ht)
        rw [ht] at HM
        clear ht
        simp only [sComma] at HT
        go_wp2_with (go_at_call 81; refine (HT.out).mono ?_; rintro e w2 ⟨rfl, hx2⟩)
        go_ret
        refine ⟨hx.trans (Chg.of_ext hx2), ?_⟩
        rw [HEQ.out, HM.out]
        refine ⟨hc.ext hx2, _, rfl, ?_⟩
        simp only [List.append_nil]
        obtain ⟨a, c, hv, hvc, hd⟩ := GRow.dat (by decide) (HROW.out.ext hx2)
        rw [List.length_map] at hv hvc
        exact ⟨a, c, hv, hvc, hd⟩
      | some r1 =>
        have HT := Lib.hid (take_yes hl hc ht)
        rw [ht] at HM
        have hr1 := takeS_lt ht
        have HSUF := Lib.hid (takeS_suf ht)
        simp only [sComma] at HT
        clear ht
        cases hk : kindK 2 r1 with
        | bad r2 =>
          have HN := Lib.hid (fun w' (h : Cur cb l w' r1) hp => name1_any hl hne pb (w := w') h hp)
          rw [hk] at HN
          have HR := Lib.hid (show rowR (kindK 2) sComma ks = .bad r2 by rw [HEQ.out, HM.out]; simp only; rw [hk]; rfl)
          clear hk
          have hp' := hx.cell hp (by simpa using hpb)
          go_wp2_with (first | (go_at_call 81; refine (HT.out).mono ?_; rintro e w2 ⟨rfl, hc2, hx2⟩) | (go_at_call 167; refine (HN.out _ hc2 (hx2.cell hp' (by simpa using hpb))).mono ?_; rintro e w3 ⟨hx3, rfl⟩))
          refine ⟨rfl, (hx.trans hx2).trans hx3, ?_⟩
          rw [HR.out]
        | ok y r2 =>
          have HN := Lib.hid (fun w' (h : Cur cb l w' r1) hp => name1_any hl hne pb (w := w') h hp)
          rw [hk] at HN
          have HY := Lib.hid (kindK_size (fun t ht => hc.toks t (HSUF.out.subset ht)) hk)
          have hr2 := kindK_lt hk
          have HR := Lib.hid (show rowR (kindK 2) sComma ks = (more (kindK 2) sComma r2).map ((pre ++ [y]) ++ ·) by rw [HEQ.out, HM.out]; simp only; rw [hk]; simp only [Rd.bind_ok]; cases more (kindK 2) sComma r2 <;> simp)
          clear hk
          have hp' := hx.cell hp (by simpa using hpb)
          go_wp2_with (first | (go_at_call 81; refine (HT.out).mono ?_; rintro e w2 ⟨rfl, hc2, hx2⟩) | (go_at_call 167; refine (HN.out _ hc2 (hx2.cell hp' (by simpa using hpb))).mono ?_; rintro e w3 ⟨hx3, hc3, rfl⟩) | (at_builtin; refine wpList_append_row rfl _ _ _ rfl 9 i0 _ 16 Tryz.underlying25 hi0 hz0 hz1' hz2' rfl (by decide) w.heap.size (.slice va pre.length vc) (pre.map strDat) rfl w3 ((HROW.out.chg hx2 (by simpa using hcb)).chg hx3 (by simpa using hcb)) (ext_alloc _ _) w3.heap.size rfl _ _ (heap_alloc_new _ _) (strDat y) (str_el HY.out) (by go_light; rw [HML.out]; simp only [maxLen]; omega) (by go_light; rw [HML.out]; omega) (by go_light; have := hx.size; have := hx2.size; have := hx3.size; simp; omega) ?_; intro g2 cap2 w4 hrow4 hgrow4 hat4 hlt4; rw [HML.out] at hrow4 ⊢))
          go_roundg r2.length
          case measure => have := HG.out; go_light; omega
          case rel =>
            have hgr := ((HROW.out.chg hx2 (by simpa using hcb)).chg hx3 (by simpa using hcb))
            refine ⟨r2, pre ++ [y], rfl, ?_, (hc3.ext (ext_alloc _ _)).append hgr hcb hgrow4, chg_append ((hx.trans hx2).trans hx3) hgr (Nat.le_refl _) (ext_alloc _ _) hgrow4, by simp; omega, HR.out⟩
            rw [List.map_append]
            exact hrow4
end
end Go.Proofs.YtnclgkdpafhogaaGreat
