/- formula.row over names. Condition: a row of at most 2^30 tokens, not empty.
A cursor that is part of a larger block: what stands behind it stays. Condition: a row of at most 2^30 tokens, not empty. -/
import Derived.Test.YtnclgkdpafhogaaQi5
import Derived.Test.YtnclgkdpafhogaaQi3
import Derived.Deep.LoopGhost
import Derived.Deep.Light
namespace Go.Proofs.Ytnclgkdpafhogaa
open Go.ChangeShapes Go.WideShapes Go.ChangeAt Go.RowKit
/-- what a reading does: a thing in new memory, and the cursor goes on; or a panic -/
def RdPost {α : Type} (is : (Nat → Prop) → World → Value → α → Prop) (cb : Nat) (l : List Tok) (w : World) (rd : Rd α) (e : Ending) (w' : World) : Prop :=
  Chg [cb] w w' ∧ match rd with
  | .ok x r => Cur cb l w' r ∧ ∃ v, e = .returned v ∧ is (fun g => w.heap.size ≤ g) w' v x
  | .bad r => e = .panicked [wrongV (badAt l r)]
def isStrs (P : Nat → Prop) (w : World) (v : Value) (x : List ByteArray) : Prop := ∃ a c, v = .slice a x.length c ∧ x.length ≤ c ∧ IsStrs P w a x
def strDat (s : ByteArray) : List Dat := [.str s]
theorem infoStr : (Try.prog.info? 9).map (fun i => (i.zero, i.size, i.bytes)) = some (some (.string ⟨#[]⟩), 1, 16) := by kernel_rfl
theorem chg_append {α : Type} {E : Elt α} {e B : Nat} {S : List Nat} {w0 w w1 w2 : World} {v : Value} {l : List α} (h : Chg S w0 w) (hr : GRow E e B w v l) (hB : w0.heap.size ≤ B) (hx : Ext w w1) (hg : w1.grownBy w2 v.ownBlock) : Chg S w0 w2 := by
  have h1 := h.trans (Chg.of_ext hx)
  exact ⟨hg.os.trans h1.os, hg.tape.trans h1.tape, hg.output.trans h1.output, Nat.le_trans h1.size hg.size, fun k hk hs => (hg.block k (Nat.lt_of_lt_of_le hk h1.size) (fun e => by have := (hr.own_ge e.symm).1; omega)).trans (h1.block k hk hs)⟩
theorem Cur.append {α : Type} {E : Elt α} {e B cb : Nat} {l ks : List Tok} {w w1 w2 : World} {v : Value} {m : List α} (h : Cur cb l w1 ks) (hr : GRow E e B w v m) (hB : cb < B) (hg : w1.grownBy w2 v.ownBlock) : Cur cb l w2 ks := by
  cases ho : v.ownBlock with
  | none =>
    rw [ho] at hg
    exact h.chg (S := []) (Chg.of_grown hg (by simp)) (by simp)
  | some g =>
    rw [ho] at hg
    have := (hr.own_ge ho).1
    exact h.chg (S := [g]) (Chg.of_grown hg (by simp)) (by simp; omega)
section
variable {cb : Nat} {l : List Tok}
theorem str_el {P : Nat → Prop} {w : World} {s : ByteArray} (hs : s.size ≤ 1073741824) : (eltDat 1).is P w [.string s] (strDat s) := ⟨rfl, ⟨rfl, hs⟩, trivial⟩
theorem name1_any (hl : l.length ≤ 1073741824) (hne : 0 < l.length) {ks : List Tok} {w : World} (pb : Nat) (h : Cur cb l w ks) (hp : w.cell? ⟨pb, 0, none⟩ = some (.pointer (some ⟨cb, 0, none⟩))) :
    Calls Try.prog 110 #[.pointer (some ⟨pb, 0, none⟩)] w fun e w' => Chg [cb] w w' ∧ match kindK 2 ks with
      | .ok x r => Cur cb l w' r ∧ e = .returned (.string x)
      | .bad r => e = .panicked [wrongV (badAt l r)] := by
  cases hk : kindK 2 ks with
  | ok x r =>
    have H := Lib.hid (kind_yes hl h hk)
    clear h hk
    go_enter Try.func110, Try.ntmps110
    go_wp2_with (go_at_call 74; refine (H.out).mono ?_; rintro e w1 ⟨rfl, hc1, hx1⟩)
    go_ret
    exact ⟨hx1, hc1, rfl⟩
  | bad r =>
    have H := Lib.hid (kind_no hl hne h (by decide) hk)
    clear h hk
    go_enter Try.func110, Try.ntmps110
    go_wp2_with (go_at_call 74; refine (H.out).mono ?_; rintro e w1 ⟨rfl, hx1⟩)
    exact ⟨rfl, Chg.of_ext hx1, rfl⟩
theorem kindK_size {ks : List Tok} (ht : ∀ t ∈ ks, t.ok) {k : Int} {x : ByteArray} {r : List Tok} (h : kindK k ks = .ok x r) : x.size ≤ 1073741824 := by
  obtain ⟨t, rfl, -, rfl⟩ := kind_some h
  exact (ht t (by simp)).2.1
def RowRel (cb : Nat) (l : List Tok) (ks : List Tok) (w : World) (g : Nat) (v : Value) (wr : World) : Prop :=
  ∃ (r : List Tok) (pre : List ByteArray), g = r.length ∧ GRow (eltDat 1) 9 w.heap.size wr v (pre.map strDat) ∧ Cur cb l wr r ∧ Chg [cb] w wr ∧ pre.length + r.length ≤ ks.length ∧ rowR (kindK 2) sComma ks = (more (kindK 2) sComma r).map (pre ++ ·)
set_option maxHeartbeats 4000000 in
set_option maxRecDepth 100000 in
theorem rowS_any (hl : l.length ≤ 1073741824) (hne : 0 < l.length) {ks : List Tok} {w : World} (pb : Nat) (hpb : pb ≠ cb) (h : Cur cb l w ks) (hp : w.cell? ⟨pb, 0, none⟩ = some (.pointer (some ⟨cb, 0, none⟩))) :
    Calls Try.prog 109 #[.pointer (some ⟨cb, 0, none⟩), .func (.func 110) #[] #[.pointer (some ⟨pb, 0, none⟩)]] w (RdPost isStrs cb l w (rowR (kindK 2) sComma ks)) := by
  obtain ⟨i0, hi0, hz0, hz1', hz2'⟩ := info_parts infoStr
  have H1 := Lib.hid (name1_any hl hne pb h hp)
  have hcb := h.lt
  cases hk : kindK 2 ks with
  | bad r =>
    have HR := Lib.hid (show rowR (kindK 2) sComma ks = .bad r by unfold rowR; rw [hk]; rfl)
    rw [hk] at H1
    clear hk h
    go_enter Try.func109, Try.ntmps109
    go_wp2_with (go_at_call 110; refine (H1.out).mono ?_; rintro e w1 ⟨hx1, rfl⟩)
    refine ⟨rfl, hx1, ?_⟩
    rw [HR.out]
  | ok x r =>
    have HX := Lib.hid (kindK_size h.toks hk)
    have HR := Lib.hid (show rowR (kindK 2) sComma ks = (more (kindK 2) sComma r).map ([x] ++ ·) by unfold rowR; rw [hk]; rfl)
    have hrl := kindK_lt hk
    rw [hk] at H1
    clear hk
    go_enter Try.func109, Try.ntmps109
    go_wp2_with (go_at_call 110; refine (H1.out).mono ?_; rintro e w1 ⟨hx1, hc1, rfl⟩)
    go_loopg [5] r.length (fun g v wr => RowRel cb l ks w g v wr)
    case atStart => exact ⟨r, [x], rfl, GRow.one hx1.size (str_el HX.out) _ rfl, hc1.ext (ext_alloc _ _), hx1.alloc _, by simp; omega, HR.out⟩
    case round =>
      obtain ⟨r, pre, hg, hrow, hc, hx, hlen, heq⟩ := hrel
      have HEQ := Lib.hid heq
      have HG := Lib.hid hg
      have HROW := Lib.hid hrow
      have HML := Lib.hid (show (pre.map strDat).length = pre.length by simp)
      obtain ⟨va, vc, hv, hvc⟩ := hrow.form
      rw [HML.out] at hv hvc
      subst hv
      have HM := Lib.hid (more_eq (one := kindK 2) (sep := sComma) (ks := r) (kindK_shrinks 2 _))
      have hpl : pre.length ≤ 1073741824 := by
        have := hc.1.length_le
        have := h.1.length_le
        omega
      clear heq hg hrow hrl H1
      cases ht : takeS sComma r with
      | none =>
        have HT := Lib.hid (take_no hl hc ht)
        rw [ht] at HM
        clear ht
        simp only [sComma] at HT
        go_wp2_with (go_at_call 64; refine (HT.out).mono ?_; rintro e w2 ⟨rfl, hx2⟩)
        go_ret
        refine ⟨hx.trans (Chg.of_ext hx2), ?_⟩
        rw [HEQ.out, HM.out]
        refine ⟨hc.ext hx2, _, rfl, ?_⟩
        simp only [List.append_nil]
        obtain ⟨a, c, hv, hvc, hd⟩ := GRow.dat (by decide) (HROW.out.ext hx2)
        rw [List.length_map] at hv hvc
        exact ⟨a, c, hv, hvc, hd⟩
      | some r1 =>
        have HT := Lib.hid (take_yes hl hc ht)
        rw [ht] at HM
        have hr1 := takeS_lt ht
        have HSUF := Lib.hid (takeS_suf ht)
        simp only [sComma] at HT
        clear ht
        cases hk : kindK 2 r1 with
        | bad r2 =>
          have HN := Lib.hid (fun w' (h : Cur cb l w' r1) hp => name1_any hl hne pb (w := w') h hp)
          rw [hk] at HN
          have HR := Lib.hid (show rowR (kindK 2) sComma ks = .bad r2 by rw [HEQ.out, HM.out]; simp only; rw [hk]; rfl)
          clear hk
          have hp' := hx.cell hp (by simpa using hpb)
          go_wp2_with (first | (go_at_call 64; refine (HT.out).mono ?_; rintro e w2 ⟨rfl, hc2, hx2⟩) | (go_at_call 110; refine (HN.out _ hc2 (hx2.cell hp' (by simpa using hpb))).mono ?_; rintro e w3 ⟨hx3, rfl⟩))
          refine ⟨rfl, (hx.trans hx2).trans hx3, ?_⟩
          rw [HR.out]
        | ok y r2 =>
          have HN := Lib.hid (fun w' (h : Cur cb l w' r1) hp => name1_any hl hne pb (w := w') h hp)
          rw [hk] at HN
          have HY := Lib.hid (kindK_size (fun t ht => hc.toks t (HSUF.out.subset ht)) hk)
          have hr2 := kindK_lt hk
          have HR := Lib.hid (show rowR (kindK 2) sComma ks = (more (kindK 2) sComma r2).map ((pre ++ [y]) ++ ·) by rw [HEQ.out, HM.out]; simp only; rw [hk]; simp only [Rd.bind_ok]; cases more (kindK 2) sComma r2 <;> simp)
          clear hk
          have hp' := hx.cell hp (by simpa using hpb)
          go_wp2_with (first | (go_at_call 64; refine (HT.out).mono ?_; rintro e w2 ⟨rfl, hc2, hx2⟩) | (go_at_call 110; refine (HN.out _ hc2 (hx2.cell hp' (by simpa using hpb))).mono ?_; rintro e w3 ⟨hx3, hc3, rfl⟩) | (at_builtin; refine wpList_append_row rfl _ _ _ rfl 9 i0 _ 16 Try.underlying23 hi0 hz0 hz1' hz2' rfl (by decide) w.heap.size (.slice va pre.length vc) (pre.map strDat) rfl w3 ((HROW.out.chg hx2 (by simpa using hcb)).chg hx3 (by simpa using hcb)) (ext_alloc _ _) w3.heap.size rfl _ _ (heap_alloc_new _ _) (strDat y) (str_el HY.out) (by go_light; rw [HML.out]; simp only [maxLen]; omega) (by go_light; rw [HML.out]; omega) (by go_light; have := hx.size; have := hx2.size; have := hx3.size; simp; omega) ?_; intro g2 cap2 w4 hrow4 hgrow4 hat4 hlt4; rw [HML.out] at hrow4 ⊢))
          go_roundg r2.length
          case measure => have := HG.out; go_light; omega
          case rel =>
            have hgr := ((HROW.out.chg hx2 (by simpa using hcb)).chg hx3 (by simpa using hcb))
            refine ⟨r2, pre ++ [y], rfl, ?_, (hc3.ext (ext_alloc _ _)).append hgr hcb hgrow4, chg_append ((hx.trans hx2).trans hx3) hgr (Nat.le_refl _) (ext_alloc _ _) hgrow4, by simp; omega, HR.out⟩
            rw [List.map_append]
            exact hrow4
end
end Go.Proofs.Ytnclgkdpafhogaa
namespace Go.Proofs.Ytnclgkdpafhogaa
open Go.ChangeShapes Go.WideShapes Go.ChangeAt Go.RowKit
/-- the world goes on, but for a cursor's place -/
structure Kept (cb : Nat) (w w' : World) : Prop where
  chg : Chg [cb] w w'
  cell : ∀ j, j ≠ 1 → ∀ v, w.cell? ⟨cb, j, none⟩ = some v → w'.cell? ⟨cb, j, none⟩ = some v
  frozen : ∀ j, j ≠ 1 → ∀ v b, w.cell? ⟨cb, j, none⟩ = some v → w.frozen? ⟨cb, j, none⟩ = b → w'.frozen? ⟨cb, j, none⟩ = b
theorem Kept.of_ext {cb : Nat} {w w' : World} (h : Ext w w') : Kept cb w w' := ⟨Chg.of_ext h, fun _ _ _ hv => h.cell hv, fun _ _ _ _ hv hf => h.frozen hv hf⟩
theorem Kept.refl (cb : Nat) (w : World) : Kept cb w w := Kept.of_ext (Below.refl _ _)
theorem Kept.trans {cb : Nat} {w w' w'' : World} (h : Kept cb w w') (k : Kept cb w' w'') : Kept cb w w'' :=
  ⟨h.chg.trans k.chg, fun j hj v hv => k.cell j hj v (h.cell j hj v hv), fun j hj v b hv hf => k.frozen j hj v b (h.cell j hj v hv) (h.frozen j hj v b hv hf)⟩
theorem Kept.set {cb : Nat} {w w' : World} (h : Kept cb w w') (x : Value) : Kept cb w (w'.setCell ⟨cb, 1, none⟩ x) :=
  ⟨h.chg.setCell _ (.inl (by simp)), fun j hj v hv => by rw [World.cell?_setCell_other _ _ _ _ (by simp [])]; exact h.cell j hj v hv, fun j hj v b hv hf => by rw [World.frozen?_setCell]; exact h.frozen j hj v b hv hf⟩
theorem Kept.chgs {cb : Nat} {S : List Nat} {w w' w'' : World} (h : Kept cb w w') (k : Chg S w' w'') (hS : cb ∉ S) (hc : Chg [cb] w w'') : Kept cb w w'' :=
  ⟨hc, fun j hj v hv => k.cell (h.cell j hj v hv) hS, fun j hj v b hv hf => k.frozen (h.cell j hj v hv) hS (h.frozen j hj v b hv hf)⟩
theorem Kept.ext {cb : Nat} {w w' w'' : World} (h : Kept cb w w') (k : Ext w' w'') : Kept cb w w'' := h.trans (Kept.of_ext k)

section
variable {cb : Nat} {l ks : List Tok} {w : World}
set_option maxRecDepth 100000 in
set_option maxHeartbeats 1000000 in
theorem ktake_yes (hl : l.length ≤ 1073741824) (h : Cur cb l w ks) {s : ByteArray} {r : List Tok} (ht : takeS s ks = some r) :
    Calls Try.prog 64 #[.pointer (some ⟨cb, 0, none⟩), .string s] w fun e w' => e = .returned (.bool true) ∧ Cur cb l w' r ∧ Kept cb w w' := by
  have HP := Lib.hid (fun w' (hx : Ext w w') => peek_any hl (h.ext hx))
  obtain ⟨t, rfl, hk, rfl⟩ := take_some ht
  have HC := Lib.hid h
  obtain ⟨hs, a, c, hown, hc, htk⟩ := h
  have hlt := hown.lt
  obtain ⟨p, hp, hpt, hp1, hp2, hp3⟩ := suf_at hs
  rw [hp2] at hown
  obtain ⟨c0, f0⟩ := hown 0 _ rfl
  obtain ⟨c1, f1⟩ := hown 1 _ rfl
  have HR := Lib.hid hp3
  have hsr : r <:+ l := (List.suffix_cons _ _).trans hs
  obtain ⟨kd, tx, ta⟩ := t
  have hk : kd = 6 := hk
  subst hk
  have he : peekT (⟨6, tx, ta⟩ :: r) = ⟨6, tx, ta⟩ := rfl
  rw [he] at HP
  clear hs hpt hp2 hp3 ht he htk hown
  simp only
  go_enter Try.func64, Try.ntmps64
  go_wp2_with (go_at_call 53; refine (HP.out _ (Below.refl _ _)).mono ?_; rintro e w1 ⟨rfl, hx1⟩; replace f1 := hx1.frozen c1 f1; replace c1 := hx1.cell c1; clear c0 f0; have hlt1 : cb < w1.heap.size := cell_lt c1; simp only [Tok.vals])
  go_ret
  exact ⟨rfl, ((HC.out.ext hx1).move hsr (by rw [HR.out]; omega)).ext (ext_alloc _ _), ((Kept.of_ext hx1).set _).ext (ext_alloc _ _)⟩
set_option maxHeartbeats 1000000 in
theorem kmust_yes (hl : l.length ≤ 1073741824) (h : Cur cb l w ks) {s : ByteArray} {r : List Tok} {u : Unit} (ht : mustS s ks = .ok u r) :
    Calls Try.prog 72 #[.pointer (some ⟨cb, 0, none⟩), .string s] w fun e w' => e = .returned (.tuple #[]) ∧ Cur cb l w' r ∧ Kept cb w w' := by
  have HT := Lib.hid (ktake_yes hl h (must_some ht))
  clear ht h
  go_enter Try.func72, Try.ntmps72
  go_wp2_with (go_at_call 64; refine (HT.out).mono ?_; rintro e w1 ⟨rfl, hc1, hx1⟩)
  go_returns
  exact ⟨rfl, hc1, hx1⟩
set_option maxRecDepth 100000 in
set_option maxHeartbeats 1000000 in
theorem knext_any (hl : l.length ≤ 1073741824) {t : Tok} {r : List Tok} (h : Cur cb l w (t :: r)) :
    Calls Try.prog 96 #[.pointer (some ⟨cb, 0, none⟩)] w fun e w' => e = .returned (.agg t.vals) ∧ Cur cb l w' r ∧ Kept cb w w' := by
  have HP := Lib.hid (fun w' (hx : Ext w w') => peek_any hl (h.ext hx))
  have HC := Lib.hid h
  obtain ⟨hs, a, c, hown, hc, htk⟩ := h
  have hlt := hown.lt
  obtain ⟨p, hp, hpt, hp1, hp2, hp3⟩ := suf_at hs
  rw [hp2] at hown
  obtain ⟨c1, f1⟩ := hown 1 _ rfl
  have HR := Lib.hid hp3
  have hsr : r <:+ l := (List.suffix_cons _ _).trans hs
  have he : peekT (t :: r) = t := rfl
  rw [he] at HP
  obtain ⟨kd, tx, ta⟩ := t
  clear hs hpt hp2 hp3 he htk hown
  obtain ⟨W, hW⟩ : ∃ W, W = w.alloc (.cells #[.int .i64 0, .string ⟨#[]⟩, .int .i64 0] 63) := ⟨_, rfl⟩
  have hx : Ext w W := by rw [hW]; exact ext_alloc _ _
  have hnew : Own W w.heap.size [.int .i64 0, .string ⟨#[]⟩, .int .i64 0] := by rw [hW]; exact own3 w _ _ _ _
  go_enter Try.func96, Try.ntmps96
  go_wp2_with (rw [← hW]; clear hW; go_at_call 53; refine (HP.out _ hx).mono ?_; rintro e w1 ⟨rfl, hx1⟩; simp only [Tok.vals]; replace f1 := (hx.trans hx1).frozen c1 f1; replace c1 := (hx.trans hx1).cell c1; replace hnew := hnew.ext hx1; have hlt1 : cb < w1.heap.size := cell_lt c1; have hlt2 := hnew.lt; (obtain ⟨n0, g0⟩ := hnew 0 _ rfl); (obtain ⟨n1, g1⟩ := hnew 1 _ rfl); (obtain ⟨n2, g2⟩ := hnew 2 _ rfl); have hne : w.heap.size ≠ cb := by omega)
  have hch := (chg_set3 (w1.setCell ⟨cb, 1, none⟩ (.int .i64 ((p : Int) + 1))) w.heap.size (.int .i64 kd) (.string tx) (.int .i64 ta)).alloc (.cells #[.int .i64 kd, .string tx, .int .i64 ta] 63)
  obtain ⟨k1, k2⟩ := HC.out.set (hx.trans hx1) hsr (by rw [HR.out]; omega) (Nat.le_refl _) hch
  have k3 : Kept cb w _ := ((Kept.of_ext (cb := cb) (hx.trans hx1)).set (.int .i64 ((p : Int) + 1))).chgs hch (by simp; omega) k2
  have hres := (own_set3 (hnew.chg ((Chg.refl [cb] w1).setCell (p := ⟨cb, 1, none⟩) (.int .i64 ((p : Int) + 1)) (.inl (by simp))) (by simpa using hne)) (.int .i64 kd) (.string tx) (.int .i64 ta)).ext (ext_alloc _ (.cells #[.int .i64 kd, .string tx, .int .i64 ta] 63))
  clear hch hnew c1 f1 n0 n1 n2 g0 g1 g2 hlt1 hlt2
  obtain ⟨r0, -⟩ := hres 0 _ rfl
  obtain ⟨r1, -⟩ := hres 1 _ rfl
  obtain ⟨r2, -⟩ := hres 2 _ rfl
  generalize ((((w1.setCell ⟨cb, 1, none⟩ (.int .i64 ((p : Int) + 1))).setCell ⟨w.heap.size, 0, none⟩ (.int .i64 kd)).setCell ⟨w.heap.size, 1, none⟩ (.string tx)).setCell ⟨w.heap.size, 2, none⟩ (.int .i64 ta)).alloc (.cells #[.int .i64 kd, .string tx, .int .i64 ta] 63) = W2 at *
  exact bodyPost_ret (v := .agg #[.int .i64 kd, .string tx, .int .i64 ta]) (by simp [results, Try.results96, go_sem, r0, r1, r2]) rfl ⟨rfl, k1, k3⟩
set_option maxRecDepth 100000 in
set_option maxHeartbeats 1000000 in
theorem kkind_yes (hl : l.length ≤ 1073741824) (h : Cur cb l w ks) {k : Int} {r : List Tok} {x : ByteArray} (ht : kindK k ks = .ok x r) :
    Calls Try.prog 74 #[.pointer (some ⟨cb, 0, none⟩), .int .i64 k] w fun e w' => e = .returned (.string x) ∧ Cur cb l w' r ∧ Kept cb w w' := by
  obtain ⟨t, rfl, rfl, rfl⟩ := kind_some ht
  have HP := Lib.hid (peek_any hl h)
  have HN := Lib.hid (fun w' (hx : Ext w w') => knext_any hl (h.ext hx))
  have he : peekT (t :: r) = t := rfl
  rw [he] at HP
  clear he h ht
  obtain ⟨kd, tx, ta⟩ := t
  simp only
  have q1 : (kd != kd) = false := by simp
  have hf0 := field_tok0
  have hf1 := field_tok1
  go_enter Try.func74, Try.ntmps74
  go_wp2_with (first | (go_at_call 53; refine (HP.out).mono ?_; rintro e w1 ⟨rfl, hx1⟩; simp only [Tok.vals]) | (go_at_call 96; refine (HN.out _ hx1).mono ?_; rintro e w2 ⟨rfl, hc2, hx2⟩; simp only [Tok.vals]))
  go_ret
  exact ⟨rfl, hc2, (Kept.of_ext hx1).trans hx2⟩
theorem rd_ways {α : Type} (x : Rd α) : (∃ r, x = .bad r) ∨ ∃ y r, x = .ok y r := by
  cases x with
  | ok y r => exact .inr ⟨y, r, rfl⟩
  | bad r => exact .inl ⟨r, rfl⟩
/-- all ways of Take, Must, Kind at once -/
theorem ktake_any (hl : l.length ≤ 1073741824) (h : Cur cb l w ks) (s : ByteArray) :
    Calls Try.prog 64 #[.pointer (some ⟨cb, 0, none⟩), .string s] w fun e w' => Kept cb w w' ∧ match takeS s ks with
      | some r => e = .returned (.bool true) ∧ Cur cb l w' r
      | none => e = .returned (.bool false) ∧ Cur cb l w' ks := by
  cases ht : takeS s ks with
  | some r => exact (ktake_yes hl h ht).mono fun e w' ⟨h1, h2, h3⟩ => ⟨h3, h1, h2⟩
  | none => exact (take_no hl h ht).mono fun e w' ⟨h1, h2⟩ => ⟨Kept.of_ext h2, h1, h.ext h2⟩
theorem kmust_any (hl : l.length ≤ 1073741824) (hne : 0 < l.length) (h : Cur cb l w ks) (s : ByteArray) :
    Calls Try.prog 72 #[.pointer (some ⟨cb, 0, none⟩), .string s] w fun e w' => Kept cb w w' ∧ match mustS s ks with
      | .ok _ r => e = .returned (.tuple #[]) ∧ Cur cb l w' r
      | .bad r => e = .panicked [wrongV (badAt l r)] ∧ Cur cb l w' ks := by
  cases ht : mustS s ks with
  | ok u r => exact (kmust_yes hl h ht).mono fun e w' ⟨h1, h2, h3⟩ => ⟨h3, h1, h2⟩
  | bad r => exact (must_no hl hne h ht).mono fun e w' ⟨h1, h2⟩ => ⟨Kept.of_ext h2, h1, h.ext h2⟩
theorem kkind_any (hl : l.length ≤ 1073741824) (hne : 0 < l.length) (h : Cur cb l w ks) {k : Int} (hk7 : k ≠ 7) :
    Calls Try.prog 74 #[.pointer (some ⟨cb, 0, none⟩), .int .i64 k] w fun e w' => Kept cb w w' ∧ match kindK k ks with
      | .ok x r => e = .returned (.string x) ∧ Cur cb l w' r
      | .bad r => e = .panicked [wrongV (badAt l r)] ∧ Cur cb l w' ks := by
  cases ht : kindK k ks with
  | ok x r => exact (kkind_yes hl h ht).mono fun e w' ⟨h1, h2, h3⟩ => ⟨h3, h1, h2⟩
  | bad r => exact (kind_no hl hne h hk7 ht).mono fun e w' ⟨h1, h2⟩ => ⟨Kept.of_ext h2, h1, h.ext h2⟩
end
end Go.Proofs.Ytnclgkdpafhogaa
