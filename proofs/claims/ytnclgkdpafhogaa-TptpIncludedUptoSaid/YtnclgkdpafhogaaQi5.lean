/- formula.Cursor: Peek, Next, Bad, Take, Must, Kind; Named. Condition: a row of at most 2^30 tokens, not empty. -/
import Derived.Test.YtnclgkdpafhogaaQi3
import Derived.Test.YtnclgkdpafhogaaQi0
import Derived.WalkLawsBesides
import Derived.StillTailTactics
import Derived.Laws.EntriesVeiled
namespace Go.Proofs.Ytnclgkdpafhogaa
open Go.ChangeShapes Go.WideShapes Go.ChangeAt Go.RowKit
/-- from an address on stand tokens, in blocks ahead of cb -/
def IsToks (cb : Nat) (w : World) (a : Option Addr) (l : List Tok) : Prop := Dat.Rows (fun b => b < cb) w a (l.map Tok.dat)
theorem IsToks.chgs {cb : Nat} {S : List Nat} {w w' : World} {a : Option Addr} {l : List Tok} (h : IsToks cb w a l) (hx : Chg S w w') (hS : ∀ b ∈ S, cb ≤ b) : IsToks cb w' a l := Dat.Rows.chg h hx (fun b hb hm => by have := hS b hm; omega)
theorem IsToks.chg {cb : Nat} {w w' : World} {a : Option Addr} {l : List Tok} (h : IsToks cb w a l) (hx : Chg [cb] w w') : IsToks cb w' a l := h.chgs hx (by simp)
theorem IsToks.look {cb : Nat} {w : World} {a : Option Addr} {l : List Tok} (h : IsToks cb w a l) {i : Nat} (hi : i < l.length) :
    ∃ b o, a = some ⟨b, o, none⟩ ∧ b < cb ∧ w.cell? ⟨b, o + i * 3, none⟩ = some (.int .i64 l[i].kind) ∧ w.cell? ⟨b, o + i * 3 + 1, none⟩ = some (.string l[i].text) ∧ w.cell? ⟨b, o + i * 3 + 2, none⟩ = some (.int .i64 l[i].at') ∧ l[i].ok := by
  obtain ⟨b, o, rfl, hb⟩ := Dat.Rows.addr h (by rw [List.length_map]; omega)
  obtain ⟨vs, h1, h2⟩ := Dat.Rows.at (m := 3) h (fun e he => by obtain ⟨x, -, rfl⟩ := List.mem_map.1 he; rfl) (i := i) (by rw [List.length_map]; exact hi)
  rw [List.getElem_map] at h2
  have hlen := h2.length
  match vs, hlen with
  | [x, y, z], _ =>
    obtain ⟨⟨rfl, r1, r2⟩, ⟨rfl, r3⟩, ⟨rfl, r4, r5⟩, -⟩ := h2
    exact ⟨b, o, rfl, hb, h1 0 _ rfl, h1 1 _ rfl, h1 2 _ rfl, ⟨r1, r2⟩, r3, r4, r5⟩

/-- a cursor's block: the tokens ks are still to come -/
def Cur (cb : Nat) (l : List Tok) (w : World) (ks : List Tok) : Prop :=
  ks <:+ l ∧ ∃ a c, Own w cb [.slice a l.length c, .int .i64 (l.length - ks.length : Nat)] ∧ l.length ≤ c ∧ IsToks cb w a l
theorem Cur.ext {cb : Nat} {l ks : List Tok} {w w' : World} (h : Cur cb l w ks) (hx : Ext w w') : Cur cb l w' ks := by
  obtain ⟨h1, a, c, h2, h3, h4⟩ := h
  exact ⟨h1, a, c, h2.ext hx, h3, Dat.Rows.ext h4 hx⟩
theorem Cur.chg {cb : Nat} {l ks : List Tok} {S : List Nat} {w w' : World} (h : Cur cb l w ks) (hx : Chg S w w') (hS : ∀ b ∈ S, cb < b) : Cur cb l w' ks := by
  obtain ⟨h1, a, c, h2, h3, h4⟩ := h
  exact ⟨h1, a, c, h2.chg hx (fun hm => by have := hS cb hm; omega), h3, h4.chgs hx (fun b hb => by have := hS b hb; omega)⟩
theorem Cur.toks {cb : Nat} {l ks : List Tok} {w : World} (h : Cur cb l w ks) : ∀ t ∈ ks, t.ok := fun t ht => by
  obtain ⟨h1, a, c, h2, h3, h4⟩ := h
  obtain ⟨i, hi, rfl⟩ := List.getElem_of_mem (h1.subset ht)
  obtain ⟨_, _, _, _, _, _, _, hok⟩ := h4.look hi
  exact hok
theorem Cur.lt {cb : Nat} {l ks : List Tok} {w : World} (h : Cur cb l w ks) : cb < w.heap.size := by
  obtain ⟨h1, a, c, h2, h3, h4⟩ := h; exact h2.lt
/-- the cursor moves -/
theorem Cur.move {cb : Nat} {l ks r : List Tok} {w : World} (h : Cur cb l w ks) (hr : r <:+ l) {z : Int} (hz : z = (l.length - r.length : Nat)) : Cur cb l (w.setCell ⟨cb, 1, none⟩ (.int .i64 z)) r := by
  obtain ⟨h1, a, c, h2, h3, h4⟩ := h
  subst hz
  exact ⟨hr, a, c, h2.set (i := 1) (by simp) _, h3, h4.chg ((Chg.refl [cb] w).setCell _ (.inl (by simp)))⟩
/-- the cursor moves, something is put into a new block -/
theorem Cur.set {cb nb : Nat} {l ks r : List Tok} {w w1 w2 : World} (h : Cur cb l w ks) (hx : Ext w w1) (hr : r <:+ l) {z : Int} (hz : z = (l.length - r.length : Nat)) (hnb : w.heap.size ≤ nb)
    (h2 : Chg [nb] (w1.setCell ⟨cb, 1, none⟩ (.int .i64 z)) w2) : Cur cb l w2 r ∧ Chg [cb] w w2 := by
  have hlt := h.lt
  have hc1 : Chg [cb] w (w1.setCell ⟨cb, 1, none⟩ (.int .i64 z)) := (Chg.of_ext hx).setCell _ (.inl (by simp))
  have hc2 : Chg [cb] w w2 := Chg.drop (Below.refl _ _) ((hc1.mono (T := [cb, nb]) (by simp)).trans (h2.mono (by simp))) (by simp; omega)
  obtain ⟨h1, a, c, h3, h4, h5⟩ := h
  subst hz
  exact ⟨⟨hr, a, c, ((h3.ext hx).set (i := 1) (by simp) _).chg h2 (by simp; omega), h4, h5.chg hc2⟩, hc2⟩
theorem suf_at {t : Tok} {l r : List Tok} (h : t :: r <:+ l) : ∃ p, ∃ hp : p < l.length, l[p] = t ∧ p + r.length + 1 = l.length ∧ l.length - (t :: r).length = p ∧ l.length - r.length = p + 1 := by
  obtain ⟨q, rfl⟩ := h
  refine ⟨q.length, by simp, by simp, by simp; omega, by simp, by simp; omega⟩

theorem ext_set {w w' : World} (h : Ext w w') {b : Nat} (hb : w.heap.size ≤ b) (i : Nat) (v : Value) : Ext w (w'.setCell ⟨b, i, none⟩ v) := Below.setCell h hb v
def endT : Tok := ⟨7, ⟨#[]⟩, 0⟩
/-- the next token -/
def peekT (ks : List Tok) : Tok := ks.head?.getD endT
def badAt (l ks : List Tok) : Nat := min (l.length - ks.length) (l.length - 1)
def wrongV (n : Nat) : PanicEntry := { v := .iface 115 (.agg #[.int .i64 n]), recovered := false }
theorem wrong_eq {n : Nat} {z : Int} (h : (n : Int) = z) : Ending.panicked [{ v := .iface 115 (.agg #[.int .i64 z]), recovered := false }] = .panicked [wrongV n] := by subst h; rfl

theorem field_tok0 (x y z : Value) (w : World) : (Instr.field 63 (.agg #[x, y, z]) 0).run Try.prog w = .ok x w := by
  kernel_rfl
theorem field_tok1 (x y z : Value) (w : World) : (Instr.field 63 (.agg #[x, y, z]) 1).run Try.prog w = .ok y w := by
  kernel_rfl
section
variable {cb : Nat} {l ks : List Tok} {w : World}
set_option maxRecDepth 100000 in
set_option maxHeartbeats 1000000 in
theorem peek_any (_hl : l.length ≤ 1073741824) (h : Cur cb l w ks) : Calls Try.prog 53 #[.pointer (some ⟨cb, 0, none⟩)] w fun e w' => e = .returned (.agg (peekT ks).vals) ∧ Ext w w' := by
  obtain ⟨hs, a, c, hown, hc, ht⟩ := h
  have hlt := hown.lt
  obtain ⟨c0, f0⟩ := hown 0 _ rfl
  obtain ⟨c1, f1⟩ := hown 1 _ rfl
  cases ks with
  | nil =>
    have hd : decide ((l.length : Int) < (l.length : Nat)) = false := by simp
    simp only [List.length_nil, Nat.sub_zero] at c1
    go_enter Try.func53, Try.ntmps53
    go_wp2
    go_quiet (fail)
    go_wp2
    exact bodyPost_ret (v := .agg #[.int .i64 7, .string ⟨#[]⟩, .int .i64 0]) (by simp [results, Try.results53, go_sem]) rfl ⟨rfl, ext_set (ext_set (ext_set ((ext_alloc _ _).drewN _) (Nat.le_refl _) _ _) (Nat.le_refl _) _ _) (Nat.le_refl _) _ _⟩
  | cons t r =>
    obtain ⟨p, hp, hpt, hp1, hp2, hp3⟩ := suf_at hs
    obtain ⟨b, o, rfl, hb, t0, t1, t2, hok⟩ := ht.look hp
    rw [hpt] at t0 t1 t2
    rw [hp2] at c1
    have hd : decide ((p : Int) < (l.length : Nat)) = true := decide_eq_true (by omega)
    have hp' : (p : Int) < (l.length : Nat) := by omega
    clear hpt hp1 hp2 hp3 ht hown
    go_enter Try.func53, Try.ntmps53
    go_wp2
    go_quiet (fail)
    go_wp2
    obtain ⟨V, hV⟩ : ∃ V, V = (w.alloc (.cells #[.int .i64 0, .string ⟨#[]⟩, .int .i64 0] 63)).drewN nq := ⟨_, rfl⟩
    have hx : Ext w V := by rw [hV]; exact (ext_alloc _ _).drewN _
    have hnew : Own V w.heap.size [.int .i64 0, .string ⟨#[]⟩, .int .i64 0] := by rw [hV]; exact (own3 w _ _ _ _).ext (Ext.drewN (Below.refl _ _) _)
    have hle := hx.size
    replace c0 := hx.cell c0
    replace c1 := hx.cell c1
    replace t0 := hx.cell t0
    replace t1 := hx.cell t1
    replace t2 := hx.cell t2
    obtain ⟨n0, g0⟩ := hnew 0 _ rfl
    obtain ⟨n1, g1⟩ := hnew 1 _ rfl
    obtain ⟨n2, g2⟩ := hnew 2 _ rfl
    rw [← hV]
    clear hV f0 f1
    go_still_tail 10, (by kernel_rfl)
    change wpList _ _ _ _ _ V.drew
    go_wp2
    exact bodyPost_ret (v := .agg #[.int .i64 t.kind, .string t.text, .int .i64 t.at']) (by simp [results, Try.results53, go_sem, n0, n1, n2]) rfl ⟨rfl, (ext_set (ext_set (ext_set hx (Nat.le_refl _) _ _) (Nat.le_refl _) _ _) (Nat.le_refl _) _ _).drew⟩
set_option maxRecDepth 100000 in
set_option maxHeartbeats 1000000 in
theorem bad_any (hl : l.length ≤ 1073741824) (hne : 0 < l.length) (h : Cur cb l w ks) : Calls Try.prog 56 #[.pointer (some ⟨cb, 0, none⟩)] w fun e w' => e = .panicked [wrongV (badAt l ks)] ∧ Ext w w' := by
  obtain ⟨hs, a, c, hown, hc, ht⟩ := h
  have hlt := hown.lt
  obtain ⟨c0, f0⟩ := hown 0 _ rfl
  obtain ⟨c1, f1⟩ := hown 1 _ rfl
  have hb : (badAt l ks : Nat) ≤ l.length - 1 := Nat.min_le_right _ _
  have hm1 : IntKind.i64.wrap ((l.length : Int) - 1) = (l.length : Int) - 1 := IntWalk.i64_in _ (by omega)
  have hv : (badAt l ks : Int) = max (min ((l.length - ks.length : Nat) : Int) ((l.length : Int) - 1)) 0 := by unfold badAt; omega
  have HV := Lib.hid hv; clear hv
  generalize l.length - ks.length = p at *
  go_enter Try.func56, Try.ntmps56
  go_wp2
  go_still_tail 14, (by kernel_rfl)
  go_wp2
  all_goals exact ⟨rfl, wrong_eq (by rw [HV.out]; omega), (Below.refl _ _).drew⟩

theorem bytes_ne {a b : ByteArray} (h : a ≠ b) : (a.toList == b.toList) = false := by
  rw [beq_eq_false_iff_ne]; intro he; apply h; apply ByteArray.ext; apply Array.toList_inj.1
  rw [Go.ByteArray.toList_eq, Go.ByteArray.toList_eq] at he; exact he
theorem bytes_eq {a b : ByteArray} (h : a = b) : (a.toList == b.toList) = true := by subst h; exact beq_self_eq_true _
theorem bytes_beq (a b : ByteArray) : (a.toList == b.toList) = decide (a = b) := by
  by_cases h : a = b
  · rw [bytes_eq h, decide_eq_true h]
  · rw [bytes_ne h, decide_eq_false h]
theorem take_some {s : ByteArray} {r : List Tok} (h : takeS s ks = some r) : ∃ t, ks = t :: r ∧ t.kind = 6 ∧ t.text = s := by
  cases ks with
  | nil => cases h
  | cons t ks =>
    rw [takeS_cons] at h
    split at h
    · rename_i ht
      injection h with h; subst h
      unfold Tok.sign at ht
      rw [Bool.and_eq_true, decide_eq_true_eq, decide_eq_true_eq] at ht
      exact ⟨t, rfl, ht⟩
    · cases h
theorem take_none {s : ByteArray} (h : takeS s ks = none) : (peekT ks).kind ≠ 6 ∨ ((peekT ks).kind = 6 ∧ (peekT ks).text ≠ s) := by
  cases ks with
  | nil => exact .inl (by decide)
  | cons t ks =>
    rw [takeS_cons] at h
    split at h
    · cases h
    · rename_i ht
      unfold Tok.sign at ht
      rw [Bool.and_eq_true, decide_eq_true_eq, decide_eq_true_eq] at ht
      show t.kind ≠ 6 ∨ (t.kind = 6 ∧ t.text ≠ s)
      by_cases h6 : t.kind = 6
      · exact .inr ⟨h6, fun h => ht ⟨h6, h⟩⟩
      · exact .inl h6
set_option maxRecDepth 100000 in
set_option maxHeartbeats 1000000 in
theorem take_yes (hl : l.length ≤ 1073741824) (h : Cur cb l w ks) {s : ByteArray} {r : List Tok} (ht : takeS s ks = some r) :
    Calls Try.prog 64 #[.pointer (some ⟨cb, 0, none⟩), .string s] w fun e w' => e = .returned (.bool true) ∧ Cur cb l w' r ∧ Chg [cb] w w' := by
  have HP := Lib.hid (fun w' (hx : Ext w w') => peek_any hl (h.ext hx))
  obtain ⟨t, rfl, hk, rfl⟩ := take_some ht
  have HC := Lib.hid h
  obtain ⟨hs, a, c, hown, hc, htk⟩ := h
  have hlt := hown.lt
  obtain ⟨p, hp, hpt, hp1, hp2, hp3⟩ := suf_at hs
  rw [hp2] at hown
  obtain ⟨c0, f0⟩ := hown 0 _ rfl
  obtain ⟨c1, f1⟩ := hown 1 _ rfl
  have HR := Lib.hid hp3
  have hsr : r <:+ l := (List.suffix_cons _ _).trans hs
  obtain ⟨kd, tx, ta⟩ := t
  have hk : kd = 6 := hk
  subst hk
  have he : peekT (⟨6, tx, ta⟩ :: r) = ⟨6, tx, ta⟩ := rfl
  rw [he] at HP
  clear hs hpt hp2 hp3 ht he htk hown
  simp only
  go_enter Try.func64, Try.ntmps64
  go_wp2_with (go_at_call 53; refine (HP.out _ (Below.refl _ _)).mono ?_; rintro e w1 ⟨rfl, hx1⟩; replace f1 := hx1.frozen c1 f1; replace c1 := hx1.cell c1; clear c0 f0; have hlt1 : cb < w1.heap.size := cell_lt c1; simp only [Tok.vals])
  go_ret
  exact ⟨rfl, ((HC.out.ext hx1).move hsr (by rw [HR.out]; omega)).ext (ext_alloc _ _), ((Chg.of_ext hx1).setCell _ (.inl (by simp))).alloc _⟩
set_option maxRecDepth 100000 in
set_option maxHeartbeats 1000000 in
theorem take_no (hl : l.length ≤ 1073741824) (h : Cur cb l w ks) {s : ByteArray} (ht : takeS s ks = none) :
    Calls Try.prog 64 #[.pointer (some ⟨cb, 0, none⟩), .string s] w fun e w' => e = .returned (.bool false) ∧ Ext w w' := by
  have HP := Lib.hid (fun w' (hx : Ext w w') => peek_any hl (h.ext hx))
  have ht' := take_none ht
  clear ht h
  generalize peekT ks = t at *
  obtain ⟨kd, tx, ta⟩ := t
  simp only at ht'
  rcases ht' with hk | ⟨rfl, hk⟩
  · have q1 : (kd != 6) = true := by rw [bne_iff_ne]; exact hk
    clear hk
    go_enter Try.func64, Try.ntmps64
    go_wp2_with (go_at_call 53; refine (HP.out _ (Below.refl _ _)).mono ?_; rintro e w1 ⟨rfl, hx1⟩; simp only [Tok.vals])
    go_ret
    exact ⟨rfl, hx1.alloc _⟩
  · have q2 : (tx.toList == s.toList) = false := bytes_ne hk
    go_enter Try.func64, Try.ntmps64
    go_wp2_with (go_at_call 53; refine (HP.out _ (Below.refl _ _)).mono ?_; rintro e w1 ⟨rfl, hx1⟩; simp only [Tok.vals])
    go_ret
    exact ⟨rfl, hx1.alloc _⟩
theorem must_some {s : ByteArray} {r : List Tok} {u : Unit} (h : mustS s ks = .ok u r) : takeS s ks = some r := by
  unfold mustS at h
  split at h
  · rename_i h'; injection h with _ h; subst h; exact h'
  · cases h
theorem must_none {s : ByteArray} {r : List Tok} (h : mustS s ks = .bad r) : takeS s ks = none ∧ r = ks := by
  unfold mustS at h
  split at h
  · cases h
  · rename_i h'; injection h with h; exact ⟨h', h.symm⟩
set_option maxHeartbeats 1000000 in
theorem must_yes (hl : l.length ≤ 1073741824) (h : Cur cb l w ks) {s : ByteArray} {r : List Tok} {u : Unit} (ht : mustS s ks = .ok u r) :
    Calls Try.prog 72 #[.pointer (some ⟨cb, 0, none⟩), .string s] w fun e w' => e = .returned (.tuple #[]) ∧ Cur cb l w' r ∧ Chg [cb] w w' := by
  have HT := Lib.hid (take_yes hl h (must_some ht))
  clear ht h
  go_enter Try.func72, Try.ntmps72
  go_wp2_with (go_at_call 64; refine (HT.out).mono ?_; rintro e w1 ⟨rfl, hc1, hx1⟩)
  go_returns
  exact ⟨rfl, hc1, hx1⟩
set_option maxHeartbeats 1000000 in
theorem must_no (hl : l.length ≤ 1073741824) (hne : 0 < l.length) (h : Cur cb l w ks) {s : ByteArray} {r : List Tok} (ht : mustS s ks = .bad r) :
    Calls Try.prog 72 #[.pointer (some ⟨cb, 0, none⟩), .string s] w fun e w' => e = .panicked [wrongV (badAt l r)] ∧ Ext w w' := by
  obtain ⟨ht, rfl⟩ := must_none ht
  have HT := Lib.hid (take_no hl h ht)
  have HB := Lib.hid (fun w' (hx : Ext w w') => bad_any hl hne (h.ext hx))
  clear ht h
  go_enter Try.func72, Try.ntmps72
  go_wp2_with (first | (go_at_call 64; refine (HT.out).mono ?_; rintro e w1 ⟨rfl, hx1⟩) | (go_at_call 56; refine (HB.out _ hx1).mono ?_; rintro e w2 ⟨rfl, hx2⟩))
  exact ⟨rfl, rfl, hx1.trans hx2⟩
set_option maxRecDepth 100000 in
set_option maxHeartbeats 1000000 in
theorem next_any (hl : l.length ≤ 1073741824) {t : Tok} {r : List Tok} (h : Cur cb l w (t :: r)) :
    Calls Try.prog 96 #[.pointer (some ⟨cb, 0, none⟩)] w fun e w' => e = .returned (.agg t.vals) ∧ Cur cb l w' r ∧ Chg [cb] w w' := by
  have HP := Lib.hid (fun w' (hx : Ext w w') => peek_any hl (h.ext hx))
  have HC := Lib.hid h
  obtain ⟨hs, a, c, hown, hc, htk⟩ := h
  have hlt := hown.lt
  obtain ⟨p, hp, hpt, hp1, hp2, hp3⟩ := suf_at hs
  rw [hp2] at hown
  obtain ⟨c1, f1⟩ := hown 1 _ rfl
  have HR := Lib.hid hp3
  have hsr : r <:+ l := (List.suffix_cons _ _).trans hs
  have he : peekT (t :: r) = t := rfl
  rw [he] at HP
  obtain ⟨kd, tx, ta⟩ := t
  clear hs hpt hp2 hp3 he htk hown
  obtain ⟨W, hW⟩ : ∃ W, W = w.alloc (.cells #[.int .i64 0, .string ⟨#[]⟩, .int .i64 0] 63) := ⟨_, rfl⟩
  have hx : Ext w W := by rw [hW]; exact ext_alloc _ _
  have hnew : Own W w.heap.size [.int .i64 0, .string ⟨#[]⟩, .int .i64 0] := by rw [hW]; exact own3 w _ _ _ _
  go_enter Try.func96, Try.ntmps96
  go_wp2_with (rw [← hW]; clear hW; go_at_call 53; refine (HP.out _ hx).mono ?_; rintro e w1 ⟨rfl, hx1⟩; simp only [Tok.vals]; replace f1 := (hx.trans hx1).frozen c1 f1; replace c1 := (hx.trans hx1).cell c1; replace hnew := hnew.ext hx1; have hlt1 : cb < w1.heap.size := cell_lt c1; have hlt2 := hnew.lt; (obtain ⟨n0, g0⟩ := hnew 0 _ rfl); (obtain ⟨n1, g1⟩ := hnew 1 _ rfl); (obtain ⟨n2, g2⟩ := hnew 2 _ rfl); have hne : w.heap.size ≠ cb := by omega)
  have hch := (chg_set3 (w1.setCell ⟨cb, 1, none⟩ (.int .i64 ((p : Int) + 1))) w.heap.size (.int .i64 kd) (.string tx) (.int .i64 ta)).alloc (.cells #[.int .i64 kd, .string tx, .int .i64 ta] 63)
  obtain ⟨k1, k2⟩ := HC.out.set (hx.trans hx1) hsr (by rw [HR.out]; omega) (Nat.le_refl _) hch
  have hres := (own_set3 (hnew.chg ((Chg.refl [cb] w1).setCell (p := ⟨cb, 1, none⟩) (.int .i64 ((p : Int) + 1)) (.inl (by simp))) (by simpa using hne)) (.int .i64 kd) (.string tx) (.int .i64 ta)).ext (ext_alloc _ (.cells #[.int .i64 kd, .string tx, .int .i64 ta] 63))
  clear hch hnew c1 f1 n0 n1 n2 g0 g1 g2 hlt1 hlt2
  obtain ⟨r0, -⟩ := hres 0 _ rfl
  obtain ⟨r1, -⟩ := hres 1 _ rfl
  obtain ⟨r2, -⟩ := hres 2 _ rfl
  generalize ((((w1.setCell ⟨cb, 1, none⟩ (.int .i64 ((p : Int) + 1))).setCell ⟨w.heap.size, 0, none⟩ (.int .i64 kd)).setCell ⟨w.heap.size, 1, none⟩ (.string tx)).setCell ⟨w.heap.size, 2, none⟩ (.int .i64 ta)).alloc (.cells #[.int .i64 kd, .string tx, .int .i64 ta] 63) = W2 at *
  exact bodyPost_ret (v := .agg #[.int .i64 kd, .string tx, .int .i64 ta]) (by simp [results, Try.results96, go_sem, r0, r1, r2]) rfl ⟨rfl, k1, k2⟩
theorem kind_some {k : Int} {r : List Tok} {x : ByteArray} (h : kindK k ks = .ok x r) : ∃ t, ks = t :: r ∧ t.kind = k ∧ t.text = x := by
  cases ks with
  | nil => cases h
  | cons t ks =>
    rw [kindK_cons] at h
    split at h
    · rename_i hk; injection h with h1 h2; subst h2; exact ⟨t, rfl, hk, h1⟩
    · cases h
theorem kind_none {k : Int} {r : List Tok} (hk7 : k ≠ 7) (h : kindK k ks = .bad r) : (peekT ks).kind ≠ k ∧ r = ks := by
  cases ks with
  | nil => injection h with h; exact ⟨fun h => hk7 h.symm, h.symm⟩
  | cons t ks =>
    rw [kindK_cons] at h
    split at h
    · cases h
    · rename_i hk; injection h with h; exact ⟨hk, h.symm⟩
set_option maxRecDepth 100000 in
set_option maxHeartbeats 1000000 in
theorem kind_yes (hl : l.length ≤ 1073741824) (h : Cur cb l w ks) {k : Int} {r : List Tok} {x : ByteArray} (ht : kindK k ks = .ok x r) :
    Calls Try.prog 74 #[.pointer (some ⟨cb, 0, none⟩), .int .i64 k] w fun e w' => e = .returned (.string x) ∧ Cur cb l w' r ∧ Chg [cb] w w' := by
  obtain ⟨t, rfl, rfl, rfl⟩ := kind_some ht
  have HP := Lib.hid (peek_any hl h)
  have HN := Lib.hid (fun w' (hx : Ext w w') => next_any hl (h.ext hx))
  have he : peekT (t :: r) = t := rfl
  rw [he] at HP
  clear he h ht
  obtain ⟨kd, tx, ta⟩ := t
  simp only
  have q1 : (kd != kd) = false := by simp
  have hf0 := field_tok0
  have hf1 := field_tok1
  go_enter Try.func74, Try.ntmps74
  go_wp2_with (first | (go_at_call 53; refine (HP.out).mono ?_; rintro e w1 ⟨rfl, hx1⟩; simp only [Tok.vals]) | (go_at_call 96; refine (HN.out _ hx1).mono ?_; rintro e w2 ⟨rfl, hc2, hx2⟩; simp only [Tok.vals]))
  go_ret
  exact ⟨rfl, hc2, (Chg.of_ext hx1).trans hx2⟩
set_option maxRecDepth 100000 in
set_option maxHeartbeats 1000000 in
theorem kind_no (hl : l.length ≤ 1073741824) (hne : 0 < l.length) (h : Cur cb l w ks) {k : Int} (hk7 : k ≠ 7) {r : List Tok} (ht : kindK k ks = .bad r) :
    Calls Try.prog 74 #[.pointer (some ⟨cb, 0, none⟩), .int .i64 k] w fun e w' => e = .panicked [wrongV (badAt l r)] ∧ Ext w w' := by
  obtain ⟨hk, rfl⟩ := kind_none hk7 ht
  have HP := Lib.hid (peek_any hl h)
  have HB := Lib.hid (fun w' (hx : Ext w w') => bad_any hl hne (h.ext hx))
  clear h ht
  generalize peekT r = t at *
  obtain ⟨kd, tx, ta⟩ := t
  have q1 : (kd != k) = true := by rw [bne_iff_ne]; exact hk
  clear hk hk7
  have hf0 := field_tok0
  go_enter Try.func74, Try.ntmps74
  go_wp2_with (first | (go_at_call 53; refine (HP.out).mono ?_; rintro e w1 ⟨rfl, hx1⟩; simp only [Tok.vals]) | (go_at_call 56; refine (HB.out _ hx1).mono ?_; rintro e w2 ⟨rfl, hx2⟩))
  exact ⟨rfl, rfl, hx1.trans hx2⟩
set_option maxRecDepth 100000 in
set_option maxHeartbeats 1000000 in
theorem named_any (t : Tok) (hs : t.text.size ≤ 1073741824) : Calls Try.prog 95 #[.agg t.vals] w fun e w' => e = .returned (.bool t.named) ∧ Ext w w' := by
  obtain ⟨kd, tx, ta⟩ := t
  have HN := Lib.hid (fun w => tokName_any tx hs w)
  simp only [Tok.vals]
  unfold Tok.named
  simp only
  by_cases h1 : kd = 1
  · have q1 : (kd == 1) = true := by rw [beq_iff_eq]; exact h1
    have HD := Lib.hid (show decide (kd = 1) = true from decide_eq_true h1)
    clear h1
    go_enter Try.func95, Try.ntmps95
    go_wp2
    go_ret
    exact ⟨ret_bool (by rw [HD.out]; rfl), ext_alloc _ _⟩
  have q1 : (kd == 1) = false := by rw [beq_eq_false_iff_ne]; exact h1
  have HD := Lib.hid (show decide (kd = 1) = false from decide_eq_false h1)
  by_cases h4 : kd = 4
  · have q4 : (kd == 4) = true := by rw [beq_iff_eq]; exact h4
    have HD4 := Lib.hid (show decide (kd = 4) = true from decide_eq_true h4)
    clear h1 h4
    go_enter Try.func95, Try.ntmps95
    go_wp2_with (go_at_call 68; refine (HN.out _).mono ?_; rintro e w1 ⟨rfl, rfl⟩)
    go_ret
    exact ⟨ret_bool (by rw [HD.out, HD4.out]; simp), ext_alloc _ _⟩
  · have q4 : (kd == 4) = false := by rw [beq_eq_false_iff_ne]; exact h4
    have HD4 := Lib.hid (show decide (kd = 4) = false from decide_eq_false h4)
    clear h1 h4
    go_enter Try.func95, Try.ntmps95
    go_wp2
    go_ret
    exact ⟨ret_bool (by rw [HD.out, HD4.out]; rfl), ext_alloc _ _⟩
end
end Go.Proofs.Ytnclgkdpafhogaa
