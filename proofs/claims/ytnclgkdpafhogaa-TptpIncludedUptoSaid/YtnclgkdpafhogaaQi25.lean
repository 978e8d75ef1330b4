/- The program's Free: the counting map; names.expr. Condition: at most 4194304 parts.
The program's Free: names.expr. Condition: at most 4194304 parts.
The program's Free: names.form. Condition: at most 4194304 parts.
The program's Free. Condition: at most 4194304 parts. -/
import Derived.Test.YtnclgkdpafhogaaQi10
import Derived.Test.YtnclgkdpafhogaaQi0
import Derived.Test.YtnclgkdpafhogaaQi17
import Derived.Test.YtnclgkdpafhogaaQi24
import Derived.BigQuiet
import Derived.Test.YtnclgkdpafhogaaQi11
import Derived.Deep.RegionLaw
namespace Go.Proofs.Ytnclgkdpafhogaa
open Go.ChangeShapes Go.WideShapes Go.ChangeAt Go.RowKit Go.Maps
/-- how often a text is in a row -/
def cntB (l : List ByteArray) (s : ByteArray) : Nat := (l.filter fun u => decide (u = s)).length
theorem cntB_append (a b : List ByteArray) (s : ByteArray) : cntB (a ++ b) s = cntB a s + cntB b s := by unfold cntB; rw [List.filter_append, List.length_append]
theorem cntB_one (u s : ByteArray) : cntB [u] s = if u = s then 1 else 0 := by unfold cntB; by_cases h : u = s <;> simp [h]
theorem cntB_cons (u : ByteArray) (l : List ByteArray) (s : ByteArray) : cntB (u :: l) s = (if u = s then 1 else 0) + cntB l s := by
  rw [← cntB_one, ← cntB_append]; rfl
theorem cntB_le (l : List ByteArray) (s : ByteArray) : cntB l s ≤ l.length := by unfold cntB; exact List.length_filter_le _ _
theorem cntB_zero (l : List ByteArray) (s : ByteArray) : (((cntB l s : Nat) : Int) == 0) = !(inB l s) := by
  have h : cntB l s = 0 ↔ inB l s = false := by
    unfold cntB inB
    rw [List.length_eq_zero_iff, List.filter_eq_nil_iff, List.any_eq_false]
  cases hb : inB l s with
  | false => rw [h.2 hb]; rfl
  | true =>
    have : cntB l s ≠ 0 := fun h0 => by rw [h.1 h0] at hb; cases hb
    rw [beq_eq_false_iff_ne.2 (by omega)]; rfl

/-- the map counts -/
def CntMap (w : World) (mb n : Nat) (c : ByteArray → Nat) : Prop :=
  ∃ D : DataW Unit, IsMap D ∧ w.ownsMap Try.prog 9 (plainElem Try.prog 3) mb n D ∧ ∀ s : ByteArray, s.size ≤ maxLen → D.atKey (.string s.data.toList) (.lit (.int .i64 0)) = .lit (.int .i64 (c s : Int))
set_option maxRecDepth 100000 in
theorem plainElem_int_inv' {v : Value} {z : DataW Unit × List MemPlace} (h : plainElem Try.prog 3 v = some z) : ∃ i, v = .int .i64 i ∧ z = (.lit (.int .i64 i), []) := by
  unfold plainElem at h
  rw [Try.underlying3] at h
  cases v <;> simp at h
  obtain ⟨⟨rfl, -⟩, h2⟩ := h
  exact ⟨_, rfl, h2.symm⟩
set_option maxRecDepth 100000 in
theorem cnt_look {w : World} {mb n : Nat} {c : ByteArray → Nat} (h : CntMap w mb n c) {s : ByteArray} (hs : s.size ≤ maxLen) :
    (Instr.lookup 168 (.map (some mb)) (.string s) false).run Try.prog w = .ok (.int .i64 (c s : Int)) w := by
  obtain ⟨D, hD, hown, hat⟩ := h
  obtain ⟨v, ps, hrun, hv⟩ := hown.lookup strKeyed Try.underlying168 (z := .int .i64 0) (by kernel_rfl) (plainElem_int Try.underlying3 (by decide)) (WideMaps.keyOf_string_mk Try.underlying9 hs)
  obtain ⟨i, rfl, hz⟩ := plainElem_int_inv' hv
  rw [hat s hs] at hz
  injection hz with h1 h2
  injection h1 with h1
  injection h1 with _ h1
  rw [hrun, ← h1]
theorem cnt_keep {w w' : World} {mb n : Nat} {c : ByteArray → Nat} (h : CntMap w mb n c) (hb : w'.heap[mb]? = w.heap[mb]?) : CntMap w' mb n c := by
  obtain ⟨D, hD, hown, hat⟩ := h
  obtain ⟨es, clock, hb', F, hs, hDD⟩ := hown
  exact ⟨D, hD, ⟨es, clock, hb.trans hb', F, hs, hDD⟩, hat⟩
theorem cnt_put {w' : World} {mb n : Nat} {c c' : ByteArray → Nat} {D : DataW Unit} (hD : IsMap D) (hat : ∀ s : ByteArray, s.size ≤ maxLen → D.atKey (.string s.data.toList) (.lit (.int .i64 0)) = .lit (.int .i64 (c s : Int)))
    {s : ByteArray} (x : Nat) (hown : w'.ownsMap Try.prog 9 (plainElem Try.prog 3) mb (n + 1) (D.put (.string s.data.toList) (.lit (.int .i64 (x : Int))))) (hc : ∀ u, c' u = if s = u then x else c u) : CntMap w' mb (n + 1) c' := by
  refine ⟨_, hD.put _ _, hown, fun u hu => ?_⟩
  rw [hc]
  by_cases he : s = u
  · subst he
    rw [atKey_put_same hD (by exact trivial), if_pos rfl]
  · rw [atKey_put_other (fun h => he (by injection h with h; exact (toList_inj' h).symm)), hat u hu, if_neg he]
theorem cnt_new (w : World) : CntMap (w.alloc (.map #[] 0)) w.heap.size 0 (fun _ => 0) := ⟨.map [], ⟨[], rfl⟩, World.ownsMap_made _ _ _ _, fun _ _ => rfl⟩
theorem CntMap.lt {w : World} {mb n : Nat} {c : ByteArray → Nat} (h : CntMap w mb n c) : mb < w.heap.size := by
  obtain ⟨D, -, hown, -⟩ := h
  exact hown.lt

/-- the state of the names: their block nb, the map's block mb, the row v -/
structure NSt (nb mb : Nat) (w : World) (n : Nat) (bd out : List ByteArray) (v : Value) : Prop where
  own : Own w nb [.map (some mb), v]
  cnt : CntMap w mb n (cntB bd)
  row : StrRow (max nb mb + 1) w v out
  ne : nb ≠ mb
/-- the world goes on, but for the names' own blocks -/
structure NFr (nb mb : Nat) (w : World) (v : Value) (w' : World) (v' : Value) : Prop where
  chg : Chg (nb :: mb :: v.ownBlock.toList) w w'
  own : v'.ownBlock = v.ownBlock ∨ ∀ g, v'.ownBlock = some g → w.heap.size ≤ g
theorem NFr.refl (nb mb : Nat) (w : World) (v : Value) : NFr nb mb w v w v := ⟨Chg.refl _ _, .inl rfl⟩
theorem NFr.trans {nb mb : Nat} {w w' w'' : World} {v v' v'' : Value} (h : NFr nb mb w v w' v') (k : NFr nb mb w' v' w'' v'') : NFr nb mb w v w'' v'' := by
  refine ⟨⟨k.chg.os.trans h.chg.os, k.chg.tape.trans h.chg.tape, k.chg.output.trans h.chg.output, Nat.le_trans h.chg.size k.chg.size, fun b hb hn => ?_⟩, ?_⟩
  · simp only [List.mem_cons, Option.mem_toList, not_or] at hn
    refine (k.chg.block b (Nat.lt_of_lt_of_le hb h.chg.size) fun hm => ?_).trans (h.chg.block b hb (by simp only [List.mem_cons, Option.mem_toList, not_or]; exact hn))
    simp only [List.mem_cons, Option.mem_toList] at hm
    rcases hm with hm | hm | hm
    · exact hn.1 hm
    · exact hn.2.1 hm
    · rcases h.own with e | e
      · exact hn.2.2 (by rw [← e]; exact hm)
      · have := e b hm; omega
  · rcases k.own with e | e
    · rw [e]; exact h.own
    · exact .inr fun g hg => Nat.le_trans h.chg.size (e g hg)
theorem NFr.of_ext {nb mb : Nat} {w w' : World} (h : Ext w w') (v : Value) : NFr nb mb w v w' v := ⟨Chg.of_ext h, .inl rfl⟩
/-- a block that the names do not touch -/
def Far (nb mb : Nat) (v : Value) (b : Nat) : Prop := b ≠ nb ∧ b ≠ mb ∧ v.ownBlock ≠ some b
theorem Far.notin {nb mb b : Nat} {v : Value} (h : Far nb mb v b) : b ∉ nb :: mb :: v.ownBlock.toList := by
  simp only [List.mem_cons, Option.mem_toList, not_or]
  exact h
theorem NFr.far {nb mb : Nat} {w w' : World} {v v' : Value} (h : NFr nb mb w v w' v') {P : Nat → Prop} (hP : ∀ b, P b → Far nb mb v b) : ∀ b, (P b ∧ b < w.heap.size) → Far nb mb v' b := by
  rintro b ⟨h1, h2⟩
  obtain ⟨q1, q2, q3⟩ := hP b h1
  refine ⟨q1, q2, fun he => ?_⟩
  rcases h.own with e | e
  · exact q3 (by rw [← e]; exact he)
  · have := e b he; omega
theorem NFr.cell {nb mb : Nat} {w w' : World} {v v' : Value} (h : NFr nb mb w v w' v') {p : Addr} {u : Value} (hp : w.cell? p = some u) (hv : Far nb mb v p.block) : w'.cell? p = some u := h.chg.cell hp hv.notin
theorem NFr.rows {nb mb : Nat} {w w' : World} {v v' : Value} (h : NFr nb mb w v w' v') {P : Nat → Prop} (hP : ∀ b, P b → Far nb mb v b) {a : Option Addr} {L : List (List Dat)} (hr : Dat.Rows P w a L) : Dat.Rows (fun b => P b ∧ b < w.heap.size) w' a L :=
  hr.of_cells (fun _ h1 h2 => ⟨h1, h2⟩) fun _ _ hb hp => h.cell hp (hP _ hb)
theorem NSt.ext {nb mb : Nat} {w w' : World} {n : Nat} {bd out : List ByteArray} {v : Value} (h : NSt nb mb w n bd out v) (hx : Ext w w') : NSt nb mb w' n bd out v :=
  ⟨h.own.ext hx, cnt_keep h.cnt (hx.block mb h.cnt.lt), h.row.ext hx, h.ne⟩
/-- what a call on the names does -/
def NSays (nb mb : Nat) (w : World) (n : Nat) (bd out : List ByteArray) (v : Value) (e : Ending) (w' : World) : Prop :=
  e = .returned (.tuple #[]) ∧ ∃ v', NSt nb mb w' n bd out v' ∧ NFr nb mb w v w' v'
end Go.Proofs.Ytnclgkdpafhogaa
namespace Go.Proofs.Ytnclgkdpafhogaa
open Go.ChangeShapes Go.WideShapes Go.ChangeAt Go.RowKit Go.Maps
theorem ext_drewN (w : World) (q : Nat) : Ext w (w.drewN q) := (Below.refl w.heap.size w).trans ⟨rfl, rfl, rfl, Nat.le_refl _, fun _ _ => rfl⟩
theorem quiet_one {P : Program} {f : FuncId} {args : Array Value} {w : World} {a n : Nat} {v : Value} (h : ∀ n, Calls P f args (w.drewN n) fun e w' => e = .returned v ∧ w.drewN n = w') :
    Calls P f args (w.drewN (a + n)) fun e w' => e = .returned v ∧ ∃ m, w' = w.drewN (a + m) := (h (a + n)).mono fun _ _ ⟨he, hw⟩ => ⟨he, n, hw.symm⟩
theorem quiet_one0 {P : Program} {f : FuncId} {args : Array Value} {w : World} {n : Nat} {v : Value} (h : ∀ n, Calls P f args (w.drewN n) fun e w' => e = .returned v ∧ w.drewN n = w') :
    Calls P f args (w.drewN n) fun e w' => e = .returned v ∧ ∃ m, w' = w.drewN m := (h n).mono fun _ _ ⟨he, hw⟩ => ⟨he, n, hw.symm⟩
theorem containsS_inB (l : List ByteArray) (s : ByteArray) : Lib.containsS l s = inB l s := by
  rw [Bool.eq_iff_iff, Lib.containsS_iff]
  unfold inB
  rw [List.any_eq_true]
  exact ⟨fun h => ⟨s, h, decide_eq_true rfl⟩, fun ⟨u, h, e⟩ => of_decide_eq_true e ▸ h⟩
theorem contains_any {l : List ByteArray} (hn : l.length ≤ 1073741824) {P : Nat → Prop} {w : World} {a : Option Addr} {c : Nat} (h : IsStrs P w a l) (s : ByteArray) :
    Calls Try.prog 84 #[.slice a l.length c, .string s] w fun e w' => e = .returned (.bool (inB l s)) ∧ w = w' := by
  by_cases hz : l.length = 0
  · have hl : l = [] := List.eq_nil_of_length_eq_zero hz
    subst hl
    refine (Try.slices_Contains_string_empty a c s w).mono ?_
    rintro e w' ⟨rfl, rfl⟩
    exact ⟨rfl, rfl⟩
  · obtain ⟨b, o, rfl, -⟩ := h.look (i := 0) (by omega)
    refine (Try.slices_Contains_string b o l.length c l s w (Nat.le_refl _) (by omega) (fun j hj => ?_)).mono ?_
    · obtain ⟨b1, o1, he, -, hc, -⟩ := h.look hj
      injection he with he; injection he with e1 e2 _
      subst e1; subst e2
      rw [List.getD_eq_getElem?_getD, List.getElem?_eq_getElem hj]; exact hc
    · rintro e w' ⟨rfl, rfl⟩
      rw [List.take_length, containsS_inB]
      exact ⟨rfl, rfl⟩
theorem NSt.app {nb mb n : Nat} {W w2 : World} {bd out : List ByteArray} {v v' : Value} {nm : ByteArray} (h : NSt nb mb W n bd out v) (hr : StrRow (max nb mb + 1) w2 v' (out ++ [nm])) (hf : RFr W v w2 v') :
    NSt nb mb (w2.setCell ⟨nb, 1, none⟩ v') n bd (out ++ [nm]) v' ∧ NFr nb mb W v (w2.setCell ⟨nb, 1, none⟩ v') v' := by
  have hge := fun g hg => StrRow.own_ge h.row (g := g) hg
  have hnb : nb ∉ v.ownBlock.toList := fun hm => by have := hge nb (by simpa using hm); omega
  have hmb : mb ∉ v.ownBlock.toList := fun hm => by have := hge mb (by simpa using hm); omega
  have hset := (Chg.refl [nb] w2).setCell (p := ⟨nb, 1, none⟩) v' (.inl (by simp))
  have hmlt := h.cnt.lt
  have hmlt2 := Nat.lt_of_lt_of_le hmlt hf.chg.size
  refine ⟨⟨(h.own.chg hf.chg hnb).set (i := 1) (by simp) v', cnt_keep h.cnt ?_, GRow.chg hr hset (by simp; omega), h.ne⟩, ⟨(hf.chg.mono fun k hk => by simp at hk ⊢; exact .inr (.inr hk)).trans (hset.mono fun k hk => by simp at hk ⊢; exact .inl hk), hf.own⟩⟩
  exact (hset.block mb hmlt2 (by simp; exact fun e => h.ne e.symm)).trans (hf.chg.block mb hmlt hmb)

set_option maxHeartbeats 4000000 in
set_option maxRecDepth 100000 in
theorem namesEx_any (t : Ex) : ∀ (P : Nat → Prop) (nb mb : Nat) (w : World) (x y z : Value) (n : Nat) (bd out : List ByteArray) (v : Value), IsEx P w x y z t → t.size ≤ 4194304 → (∀ b, P b → Far nb mb v b) → NSt nb mb w n bd out v → out.length + t.size ≤ 8388608 →
    Calls Try.prog 120 #[.pointer (some ⟨nb, 0, none⟩), .agg #[x, y, z]] w (NSays nb mb w n bd (t.free bd out) v) := by
  induction t using Ex.ind with
  | h vr nm l ih =>
    intro P nb mb w x y z n bd out v ht hs hP hst hlen
    obtain ⟨a, c, rfl, rfl, rfl, hn, hc1, hk⟩ := ht.form
    simp only [Ex.var, Ex.name, Ex.args] at hn hc1 hk ⊢
    simp only [Ex.size] at hs hlen
    have hkl := Ex.length_le_sizes l
    obtain ⟨va, vc, rfl, hvc, -⟩ := hst.row.strs
    obtain ⟨W, hW⟩ : ∃ W, W = w.alloc (.cells #[.bool vr, .string nm, .slice a l.length c] 67) := ⟨_, rfl⟩
    have hxW : Ext w W := by rw [hW]; exact ext_alloc _ _
    have hsW : w.heap.size < W.heap.size := by rw [hW]; simp
    have hb3 : Own W w.heap.size [.bool vr, .string nm, .slice a l.length c] := by rw [hW]; exact own3 w _ _ _ _
    obtain ⟨k0, -⟩ := hb3 0 _ rfl
    obtain ⟨k1, -⟩ := hb3 1 _ rfl
    obtain ⟨k2, -⟩ := hb3 2 _ rfl
    have hstW := hst.ext hxW
    have hkW := hk.ext hxW
    have hfar : Far nb mb (.slice va out.length vc) w.heap.size := ⟨by have := hst.own.lt; omega, by have := hst.cnt.lt; omega, fun he => by have := StrRow.own_ge hst.row he; omega⟩
    obtain ⟨n0, -⟩ := hstW.own 0 _ rfl
    obtain ⟨n1, m1⟩ := hstW.own 1 _ rfl
    have hlk := fun q => cnt_look (cnt_keep hstW.cnt (w' := W.drewN q) rfl) (s := nm) (by unfold maxLen; omega)
    have hzb := cntB_zero bd nm
    obtain ⟨out1, hout1⟩ : ∃ o, o = (if vr && !(inB bd nm) && !(inB out nm) then out ++ [nm] else out) := ⟨_, rfl⟩
    have HT := Lib.hid (show (Ex.mk vr nm l).free bd out = Ex.frees bd out1 l by rw [hout1]; simp only [Ex.free])
    have hl1 : out1.length ≤ out.length + 1 := by rw [hout1]; split <;> simp
    generalize (Ex.mk vr nm l).free bd out = TT at HT ⊢
    have HCn := Lib.hid (fun q => contains_any (c := vc) (by omega) ((by obtain ⟨a', c', he, -, h⟩ := hstW.row.strs; injection he with e1 _ _; subst e1; exact h.ext (ext_drewN W q) : IsStrs (fun b => max nb mb + 1 ≤ b) (W.drewN q) va out)) nm)
    have HIH := Lib.hid (fun (k : Nat) (h : k < l.length) (P : Nat → Prop) w' (v' : Value) (out' : List ByteArray) a' b' c' (hP' : ∀ b, P b → Far nb mb v' b) (hst' : NSt nb mb w' n bd out' v') (hl : out'.length + l[k].size ≤ 8388608) (hi : IsEx P w' a' b' c' l[k]) =>
      ih _ (List.getElem_mem h) P nb mb w' a' b' c' n bd out' v' hi (by have := Ex.size_le_sizes h; omega) hP' hst' hl)
    have Hlen := Lib.hid (fun (k : Nat) (h : k < l.length) => show (Ex.frees bd out1 (l.take k)).length + l[k].size ≤ 8388608 by
      have h1 := Ex.frees_len (l.take k) bd out1
      have h2 := Ex.sizes_take h
      have h3 := Ex.sizes_take_le l (k + 1)
      omega)
    clear ih ht hk
    generalize cntB bd nm = cb at hlk hzb
    generalize inB bd nm = b1 at hzb hout1
    generalize inB out nm = b2 at HCn hout1
    cases vr <;> cases b1 <;> cases b2
    all_goals
      first
        | (have ho : out1 = out := hout1
           have hst1 : NSt nb mb W n bd out1 (.slice va out.length vc) := by rw [ho]; exact hstW
           have hf1 := NFr.refl nb mb W (.slice va out.length vc)
           have Ho := Lib.hid ho
           clear ho)
        | (have ho : out1 = out ++ [nm] := hout1
           have Ho := Lib.hid ho
           clear ho)
      clear hout1
      (try simp only [Bool.not_true, Bool.not_false] at hzb)
      go_enter Try.func120, Try.ntmps120
      go_upto_region 1 with fail
      rw [← hW]
      clear hW
      go_quiet ((go_at_call 84; first | exact quiet_one HCn.out | exact quiet_one0 HCn.out))
      have hxV := ext_drewN W nq
      generalize W.drewN nq = V at hxV ⊢
      have hstV := hstW.ext hxV
      have hkV := hkW.ext hxV
      have v2 := hxV.cell k2
      have v1 := hxV.cell k1
      obtain ⟨p1, r1⟩ := hstV.own 1 _ rfl
      first
        | (have hst2 : NSt nb mb V n bd out1 (.slice va out.length vc) := by rw [Ho.out]; exact hstV
           have hf2 := NFr.of_ext (nb := nb) (mb := mb) hxV (.slice va out.length vc)
           go_wp2_with fail)
        | (have hBV : max nb mb + 1 ≤ V.heap.size := by have := hstV.own.lt; have := hstV.cnt.lt; omega
           have hnbv : nb ∉ (Value.slice va out.length vc).ownBlock.toList := fun hm => by have := StrRow.own_ge hstV.row (g := nb) (by simpa using hm); omega
           have hstD := (hstV.ext (Ext.drew (Below.refl _ V))).ext (ext_alloc _ (.cells #[.string nm] 9))
           have z1 := (ext_alloc V (.cells #[.string nm] 9)).cell p1
           have z2 := (ext_alloc V (.cells #[.string nm] 9)).cell v1
           go_wp2_with fail
           go_region_law ((first
             | (refine step_append_strs rfl _ _ rfl (v := .slice va out.length vc) (xs := [nm]) rfl hstD.row rfl (one_str V.drew nm hn) (by simp only [List.length_cons, List.length_nil]; omega) (Nat.le_trans hBV (ext_alloc V.drew _).size) ?_; intro v3 w3 hr3 hf3; (obtain ⟨a3, c3, hv3, -, -⟩ := hr3.strs); (rw [List.length_append, List.length_cons, List.length_nil] at hv3); subst hv3; (obtain ⟨e5, e6⟩ := (hstD.own.chg hf3.chg hnbv) 1 _ rfl))))
           all_goals
             obtain ⟨hst2', hf2'⟩ := hstD.app hr3 hf3
             have hst2 := hst2'
             rw [← Ho.out] at hst2
             have hf2 := (NFr.of_ext (nb := nb) (mb := mb) ((hxV.trans (Ext.drew (Below.refl _ V))).trans (ext_alloc _ (.cells #[.string nm] 9))) (.slice va out.length vc)).trans hf2'
             have q2 := hf2.cell k2 hfar
             generalize w3.setCell ⟨nb, 1, none⟩ _ = V3 at hst2 hf2 q2 ⊢
             go_wp2_with fail)
      all_goals
        go_loopw [42] (fun iv wr => ∃ (k : Nat) (vv : Value), k ≤ l.length ∧ iv = .int .i64 k ∧ NSt nb mb wr n bd (Ex.frees bd out1 (l.take k)) vv ∧ NFr nb mb W (.slice va out.length vc) wr vv) (fun i _ => l.length - (intOf i).toNat)
        case atStart => exact ⟨0, _, Nat.zero_le _, rfl, by simpa [Ex.frees] using hst2, hf2⟩
        case round =>
          obtain ⟨k, vv, hkk, rfl, hstr, hfr⟩ := hrel
          have hsr := hfr.chg.size
          by_cases hlt : k < l.length
          · have hk1 : (k : Int) < l.length := by omega
            obtain ⟨b', o', a', c', rfl, -, g1, g2, g3, hi⟩ := IsExs.look (hfr.rows hP hkW) hlt
            have hxA := ext_alloc wr (.cells #[.bool l[k].var, .string l[k].name, .slice a' l[k].args.length c'] 67)
            have HH := Lib.hid (HIH.out k hlt _ _ vv _ _ _ _ (hfr.far hP) (hstr.ext hxA) (Hlen.out k hlt) (hi.ext hxA))
            have Hst := Lib.hid (Ex.frees_take (bd := bd) (out := out1) hlt)
            clear hi
            go_wp2_with (go_at_call 120; refine (HH.out).mono ?_; rintro e w3 ⟨rfl, v3, hst3, hf3⟩)
            go_roundw
            case rel => exact ⟨k + 1, v3, by omega, by go_num, by rw [Hst.out]; exact hst3, hfr.trans ((NFr.of_ext hxA vv).trans hf3)⟩
            case measure => simp [intOf]; omega
          · have hk1 : ¬ (k : Int) < l.length := by omega
            have hke : k = l.length := by omega
            rw [hke, List.take_length] at hstr
            clear hke
            go_wp2_with fail
            go_returns
            exact ⟨rfl, vv, by rw [HT.out]; exact hstr, (NFr.of_ext hxW _).trans hfr⟩
end Go.Proofs.Ytnclgkdpafhogaa
namespace Go.Proofs.Ytnclgkdpafhogaa
open Go.ChangeShapes Go.WideShapes Go.ChangeAt Go.RowKit Go.Maps
theorem NSt.turn {nb mb n : Nat} {wr w2 : World} {bd bd' out : List ByteArray} {v : Value} (h : NSt nb mb wr n bd out v) (hg : wr.grownBy w2 (some mb)) (hc : CntMap w2 mb (n + 1) (cntB bd')) : NSt nb mb w2 (n + 1) bd' out v ∧ NFr nb mb wr v w2 v := by
  have hch : Chg [mb] wr w2 := Chg.of_grown hg (fun g hg' => by injection hg' with e; subst e; simp)
  exact ⟨⟨h.own.chg hch (by simp; exact h.ne), hc, GRow.chg h.row hch (by simp; omega), h.ne⟩, ⟨hch.mono fun k hk => by simp at hk ⊢; exact .inr (.inl hk), .inl rfl⟩⟩
theorem NSt.re {nb mb n : Nat} {w : World} {bd bd' out : List ByteArray} {v : Value} (h : NSt nb mb w n bd out v) (he : bd = bd') : NSt nb mb w n bd' out v := he ▸ h
theorem cnt_bind {w2 : World} {mb n : Nat} {bd : List ByteArray} {D : DataW Unit} {s : ByteArray} (hD : IsMap D) (hat : ∀ u : ByteArray, u.size ≤ maxLen → D.atKey (.string u.data.toList) (.lit (.int .i64 0)) = .lit (.int .i64 (cntB bd u : Int)))
    (hown : w2.ownsMap Try.prog 9 (plainElem Try.prog 3) mb (n + 1) (D.put (.string s.data.toList) (.lit (.int .i64 ((cntB bd s : Int) + 1))))) : CntMap w2 mb (n + 1) (cntB (bd ++ [s])) :=
  cnt_put hD hat (cntB bd s + 1) (by rw [Int.natCast_add]; exact hown) (fun u => by
    rw [cntB_append, cntB_one]
    by_cases h : s = u
    · subst h; simp
    · simp [h])
theorem cnt_free {w2 : World} {mb n : Nat} {bd r : List ByteArray} {D : DataW Unit} {s : ByteArray} (hD : IsMap D) (hat : ∀ u : ByteArray, u.size ≤ maxLen → D.atKey (.string u.data.toList) (.lit (.int .i64 0)) = .lit (.int .i64 (cntB (bd ++ s :: r) u : Int)))
    (hown : w2.ownsMap Try.prog 9 (plainElem Try.prog 3) mb (n + 1) (D.put (.string s.data.toList) (.lit (.int .i64 ((cntB (bd ++ s :: r) s : Int) - 1))))) : CntMap w2 mb (n + 1) (cntB (bd ++ r)) := by
  have hx : (cntB (bd ++ s :: r) s : Int) - 1 = ((cntB (bd ++ r) s : Nat) : Int) := by
    rw [cntB_append, cntB_cons, cntB_append]; simp; omega
  rw [hx] at hown
  refine cnt_put hD hat _ hown (fun u => ?_)
  by_cases h : s = u
  · subst h; simp
  · rw [if_neg h, cntB_append, cntB_append, cntB_cons, if_neg h]; omega

/-- what a call of form on the names does -/
def FSays (nb mb : Nat) (w : World) (n m : Nat) (bd out : List ByteArray) (v : Value) (e : Ending) (w' : World) : Prop :=
  e = .returned (.tuple #[]) ∧ ∃ n' v', n' ≤ n + m ∧ NSt nb mb w' n' bd out v' ∧ NFr nb mb w v w' v'

set_option maxHeartbeats 8000000 in
set_option maxRecDepth 100000 in
theorem namesFm_any (t : Fm) : ∀ (P : Nat → Prop) (nb mb : Nat) (w : World) (x y z u : Value) (n : Nat) (bd out : List ByteArray) (v : Value), IsFm P w x y z u t → t.size ≤ 4194304 → bd.length + t.size ≤ 8388608 → (∀ b, P b → Far nb mb v b) → NSt nb mb w n bd out v → n + 2 * t.size ≤ 1073741824 → out.length + t.size ≤ 8388608 →
    Calls Try.prog 114 #[.pointer (some ⟨nb, 0, none⟩), .agg #[x, y, z, u]] w (FSays nb mb w n (2 * t.size) bd (t.free bd out) v) := by
  induction t using Fm.ind with
  | h op vs ts l ih =>
    intro P nb mb w x y z u n bd out v ht hs hbl hP hst hn2 hlen
    obtain ⟨va1, vc1, ta, tc, aa, cc, rfl, rfl, rfl, rfl, -, -, hvc, htc, hlc, hvs, hts, hls⟩ := ht.form
    simp only [Fm.op, Fm.vars, Fm.terms, Fm.args] at hvc htc hlc hvs hts hls ⊢
    simp only [Fm.size] at hs hlen hbl hn2 ⊢
    have hkl := Ex.length_le_sizes ts
    have hll := Fm.length_le_sizes l
    obtain ⟨W, hW⟩ : ∃ W, W = w.alloc (.cells #[.int .i64 op, .slice va1 vs.length vc1, .slice ta ts.length tc, .slice aa l.length cc] 27) := ⟨_, rfl⟩
    have hxW : Ext w W := by rw [hW]; exact ext_alloc _ _
    have hsW : w.heap.size < W.heap.size := by rw [hW]; simp
    have hb4 : Own W w.heap.size [.int .i64 op, .slice va1 vs.length vc1, .slice ta ts.length tc, .slice aa l.length cc] := by rw [hW]; exact own4 w _ _ _ _ _
    obtain ⟨k0, -⟩ := hb4 0 _ rfl
    obtain ⟨k1, -⟩ := hb4 1 _ rfl
    obtain ⟨k2, -⟩ := hb4 2 _ rfl
    obtain ⟨k3, -⟩ := hb4 3 _ rfl
    have hfar : Far nb mb v w.heap.size := ⟨by have := hst.own.lt; omega, by have := hst.cnt.lt; omega, fun he => by have := StrRow.own_ge hst.row he; omega⟩
    have hstW := hst.ext hxW
    have htsW := hts.ext hxW
    have hlsW := hls.ext hxW
    have hvsW := hvs.ext hxW
    obtain ⟨b, hbb⟩ : ∃ b, b = bindsB op := ⟨_, rfl⟩
    have HT := Lib.hid (show (Fm.mk op vs ts l).free bd out = Fm.frees (if b then bd ++ vs else bd) (Ex.frees bd out ts) l by rw [hbb]; simp only [Fm.free])
    generalize (Fm.mk op vs ts l).free bd out = TT at HT ⊢
    have HE := Lib.hid (fun (k : Nat) (h : k < ts.length) (P : Nat → Prop) w' (v' : Value) n' (out' : List ByteArray) a' b' c' (hP' : ∀ b, P b → Far nb mb v' b) (hst' : NSt nb mb w' n' bd out' v') (hl : out'.length + ts[k].size ≤ 8388608) (hi : IsEx P w' a' b' c' ts[k]) =>
      namesEx_any _ P nb mb w' a' b' c' n' bd out' v' hi (by have := Ex.size_le_sizes h; omega) hP' hst' hl)
    have HIH := Lib.hid (fun (k : Nat) (h : k < l.length) (P : Nat → Prop) w' (v' : Value) n' bd' (out' : List ByteArray) a' b' c' d' (hb' : bd'.length + l[k].size ≤ 8388608) (hP' : ∀ b, P b → Far nb mb v' b) (hst' : NSt nb mb w' n' bd' out' v') (hn : n' + 2 * l[k].size ≤ 1073741824) (hl : out'.length + l[k].size ≤ 8388608) (hi : IsFm P w' a' b' c' d' l[k]) =>
      ih _ (List.getElem_mem h) P nb mb w' a' b' c' d' n' bd' out' v' hi (by have := Fm.size_le_sizes h; omega) hb' hP' hst' hn hl)
    clear ih ht hts hls hvs
    go_enter Try.func114, Try.ntmps114
    go_upto_region 1 with fail
    rw [← hW]
    clear hW
    go_wp2_with fail
    go_loopw [16] (fun iv wr => ∃ (k : Nat) (vv : Value), k ≤ ts.length ∧ iv = .int .i64 k ∧ NSt nb mb wr n bd (Ex.frees bd out (ts.take k)) vv ∧ NFr nb mb W v wr vv) (fun i _ => ts.length - (intOf i).toNat)
    case atStart => exact ⟨0, v, Nat.zero_le _, rfl, by simpa [Ex.frees] using hstW, NFr.refl _ _ _ _⟩
    case round =>
      obtain ⟨k, vv, hkk, rfl, hstr, hfr⟩ := hrel
      have hsr := hfr.chg.size
      by_cases hlt : k < ts.length
      · have hk1 : (k : Int) < ts.length := by omega
        obtain ⟨b', o', a', c', rfl, -, g1, g2, g3, hi⟩ := IsExs.look (hfr.rows hP htsW) hlt
        have hxA := ext_alloc wr (.cells #[.bool ts[k].var, .string ts[k].name, .slice a' ts[k].args.length c'] 67)
        have HH := Lib.hid (HE.out k hlt _ _ vv n _ _ _ _ (hfr.far hP) (hstr.ext hxA) (by have h1 := Ex.frees_len (ts.take k) bd out; have h2 := Ex.sizes_take hlt; have h3 := Ex.sizes_take_le ts (k + 1); omega) (hi.ext hxA))
        have Hst := Lib.hid (Ex.frees_take (bd := bd) (out := out) hlt)
        clear hi
        go_wp2_with (go_at_call 120; refine (HH.out).mono ?_; rintro e w3 ⟨rfl, v3, hst3, hf3⟩)
        go_roundw
        case rel => exact ⟨k + 1, v3, by omega, by go_num, by rw [Hst.out]; exact hst3, hfr.trans ((NFr.of_ext hxA vv).trans hf3)⟩
        case measure => simp [intOf]; omega
      · have hk1 : ¬ (k : Int) < ts.length := by omega
        have hke : k = ts.length := by omega
        rw [hke, List.take_length] at hstr
        clear hke
        have m0 := hfr.cell k0 hfar
        have m1 := hfr.cell k1 hfar
        have m3 := hfr.cell k3 hfar
        have m1w := k1
        have m3w := k3
        generalize vv = v5 at hstr hfr
        generalize wr = w5 at *
        obtain ⟨OUT, hOUT⟩ : ∃ o, o = Ex.frees bd out ts := ⟨_, rfl⟩
        rw [← hOUT] at hstr HT
        have hOL : OUT.length ≤ out.length + Ex.sizes ts := by rw [hOUT]; exact Ex.frees_len ts bd out
        clear hOUT HE htsW k0 k1 k2 k3 hb4
        obtain ⟨bdk, hbdk⟩ : ∃ f : Nat → List ByteArray, f = fun k => if b then bd ++ vs.take k else bd := ⟨_, rfl⟩
        obtain ⟨bdr, hbdr⟩ : ∃ f : Nat → List ByteArray, f = fun k => if b then bd ++ vs.drop k else bd := ⟨_, rfl⟩
        have HB0 := Lib.hid (show bdk 0 = bd by rw [hbdk]; cases b <;> simp)
        have HB1 := Lib.hid (show bdk vs.length = bdr 0 by rw [hbdk, hbdr]; cases b <;> simp)
        have HR1 := Lib.hid (show bdr vs.length = bd by rw [hbdr]; cases b <;> simp)
        have HBL := Lib.hid (show ∀ k, (bdr k).length ≤ bd.length + vs.length by intro k; rw [hbdr]; cases b <;> simp <;> omega)
        have HT2 := Lib.hid (show TT = Fm.frees (bdr 0) OUT l by rw [HT.out, hbdr]; cases b <;> simp)
        have hcase : ((op == 11) = true ∧ b = true) ∨ ((op == 11) = false ∧ (op == 12) = true ∧ b = true) ∨ ((op == 11) = false ∧ (op == 12) = false ∧ b = false) := by
          rw [hbb]
          unfold bindsB
          by_cases h1 : op = 11
          · exact .inl ⟨by rw [beq_iff_eq]; exact h1, by rw [decide_eq_true h1]; rfl⟩
          · by_cases h2 : op = 12
            · exact .inr (.inl ⟨by rw [beq_eq_false_iff_ne]; exact h1, by rw [beq_iff_eq]; exact h2, by rw [decide_eq_true h2]; simp⟩)
            · exact .inr (.inr ⟨by rw [beq_eq_false_iff_ne]; exact h1, by rw [beq_eq_false_iff_ne]; exact h2, by rw [decide_eq_false h1, decide_eq_false h2]; rfl⟩)
        clear hbb HT
        rcases hcase with ⟨c1, hb⟩ | ⟨c1, c2, hb⟩ | ⟨c1, c2, hb⟩
        all_goals
          have HBK := Lib.hid hbdk
          have HBR := Lib.hid hbdr
          have HBB := Lib.hid hb
          clear hbdk hbdr hb
          go_wp2_with fail
          go_loopw [35] (fun iv wr => ∃ (k n' : Nat) (v' : Value), k ≤ vs.length ∧ iv = .int .i64 k ∧ n' ≤ n + k ∧ NSt nb mb wr n' (bdk k) OUT v' ∧ NFr nb mb W v wr v') (fun i _ => vs.length - (intOf i).toNat)
          case atStart => exact ⟨0, n, v5, Nat.zero_le _, rfl, by omega, hstr.re HB0.out.symm, hfr⟩
          case round =>
            obtain ⟨k2, n2, v2, hkk2, rfl, hnn2, hst2, hfr2⟩ := hrel
            have hmm := hst2.cnt.lt
            obtain ⟨z0, -⟩ := hst2.own 0 _ rfl
            have m1' := hfr2.cell m1w hfar
            have m3' := hfr2.cell m3w hfar
            by_cases hlt2 : k2 < vs.length
            · have hk2 : (k2 : Int) < vs.length := by omega
              obtain ⟨b', o', rfl, -, g1, hsz⟩ := IsStrs.look (hfr2.rows hP hvsW) hlt2
              have hszm : vs[k2].size ≤ maxLen := by unfold maxLen; omega
              have hlk := cnt_look hst2.cnt hszm
              have HKY := Lib.hid (WideMaps.keyOf_string_mk (P := Try.prog) (k := 9) Try.underlying9 hszm)
              obtain ⟨D, hD, hown, hat⟩ := hst2.cnt
              have hcl := cntB_le (bdk k2) vs[k2]
              first
                | (have HBT : b = true := HBB.out
                   have hbl2 : (bdk k2).length ≤ bd.length + vs.length := by rw [HBK.out]; simp only [HBT, if_true, List.length_append, List.length_take]; omega
                   have HST := Lib.hid (show bdk (k2 + 1) = bdk k2 ++ [vs[k2]] by rw [HBK.out]; simp only [HBT, if_true]; rw [List.take_succ_eq_append_getElem hlt2, List.append_assoc])
                   have HAT := Lib.hid hat
                   have Hcb := Lib.hid (show ∀ x : Int, x = (cntB (bdk k2) vs[k2] : Int) → x ≤ 8388608 ∧ 0 ≤ x by intro x hx; rw [hx]; omega)
                   have hcw : IntKind.i64.wrap ((cntB (bdk k2) vs[k2] : Int) + 1) = (cntB (bdk k2) vs[k2] : Int) + 1 := IntWalk.i64_in _ (by omega)
                   have hwf := WalkArith.wf_i64 (n := (cntB (bdk k2) vs[k2] : Int) + 1) (by omega)
                   clear hat hszm HBT
                   go_wp2_with (at_mapUpdate; refine wpList_mapUpdate_own _ rfl _ _ _ 168 rfl 9 3 strKeyed Try.underlying168 (plainElem Try.prog 3) mb n2 D rfl hown (by unfold maxLen; omega) _ _ (.string vs[k2].data.toList) rfl rfl HKY.out (.lit (.int .i64 ((cntB (bdk k2) vs[k2] : Int) + 1))) [] (plainElem_int Try.underlying3 hwf) ?_; intro w2 hown2 hgrow2)
                   obtain ⟨hst3, hf3⟩ := hst2.turn hgrow2 (cnt_bind hD HAT.out hown2)
                   go_roundw
                   case rel => exact ⟨k2 + 1, n2 + 1, v2, by omega, by go_num, by omega, hst3.re HST.out.symm, hfr2.trans hf3⟩
                   case measure => simp [intOf]; omega)
                | (have HBT : b = false := HBB.out
                   have HST := Lib.hid (show bdk (k2 + 1) = bdk k2 by rw [HBK.out]; simp only [HBT]; rfl)
                   clear HBT hat hown hlk hszm
                   go_wp2_with fail
                   go_roundw
                   case rel => exact ⟨k2 + 1, n2, v2, by omega, by go_num, by omega, hst2.re HST.out.symm, hfr2⟩
                   case measure => simp [intOf]; omega)
            · have hk2 : ¬ (k2 : Int) < vs.length := by omega
              have hke2 : k2 = vs.length := by omega
              rw [hke2] at hst2
              have hn3 : n2 ≤ n + vs.length := by omega
              clear hke2
              replace hst2 := hst2.re HB1.out
              generalize wr = w6 at *
              generalize v2 = v6 at hst2 hfr2
              generalize n2 = n6 at hst2 hn3
              clear z0 hmm m1'
              go_wp2_with fail
              go_loopw [51] (fun iv wr => ∃ (k n' : Nat) (v' : Value), k ≤ l.length ∧ iv = .int .i64 k ∧ n' ≤ n + vs.length + 2 * Fm.sizes (l.take k) ∧ NSt nb mb wr n' (bdr 0) (Fm.frees (bdr 0) OUT (l.take k)) v' ∧ NFr nb mb W v wr v') (fun i _ => l.length - (intOf i).toNat)
              case atStart => exact ⟨0, n6, v6, Nat.zero_le _, rfl, by omega, by simpa [Fm.frees] using hst2, hfr2⟩
              case round =>
                obtain ⟨k3, n7, v7, hkk3, rfl, hnn3, hst3, hfr3⟩ := hrel
                have hl3 := Fm.sizes_take_le l k3
                by_cases hlt3 : k3 < l.length
                · have hk3 : (k3 : Int) < l.length := by omega
                  obtain ⟨b', o', e1, f1, e2, f2, e3, f3, rfl, -, g1, g2, g3, g4, hi⟩ := IsFms.look (hfr3.rows hP hlsW) hlt3
                  have hxA := ext_alloc wr (.cells #[.int .i64 l[k3].op, .slice e1 l[k3].vars.length f1, .slice e2 l[k3].terms.length f2, .slice e3 l[k3].args.length f3] 27)
                  have hbl3 := HBL.out 0
                  have hsl3 := Fm.size_le_sizes hlt3
                  have hst_ := Fm.sizes_take hlt3
                  have hst_2 := Fm.sizes_take_le l (k3 + 1)
                  have hfl3 := Fm.frees_len (l.take k3) (bdr 0) OUT
                  have HH := Lib.hid (HIH.out k3 hlt3 _ _ v7 n7 (bdr 0) _ _ _ _ _ (by omega) (hfr3.far hP) (hst3.ext hxA) (by omega) (by omega) (hi.ext hxA))
                  have Hst := Lib.hid (Fm.frees_take (bd := bdr 0) (out := OUT) hlt3)
                  have Hsz := Lib.hid hst_
                  clear hi hst_ hst_2 hfl3
                  go_wp2_with (go_at_call 114; refine (HH.out).mono ?_; rintro e w3 ⟨rfl, n8, v8, hn8, hst8, hf8⟩)
                  go_roundw
                  case rel => exact ⟨k3 + 1, n8, v8, by omega, by go_num, by rw [Hsz.out]; omega, by rw [Hst.out]; exact hst8, hfr3.trans ((NFr.of_ext hxA v7).trans hf8)⟩
                  case measure => simp [intOf]; omega
                · have hk3 : ¬ (k3 : Int) < l.length := by omega
                  have hke3 : k3 = l.length := by omega
                  rw [hke3, List.take_length] at hst3 hnn3
                  rw [← HT2.out] at hst3
                  clear hke3
                  have m1'' := hfr3.cell m1w hfar
                  generalize wr = w7 at *
                  go_wp2_with fail
                  go_loopw [62] (fun iv wr => ∃ (k n' : Nat) (v' : Value), k ≤ vs.length ∧ iv = .int .i64 k ∧ n' ≤ n + vs.length + 2 * Fm.sizes l + k ∧ NSt nb mb wr n' (bdr k) TT v' ∧ NFr nb mb W v wr v') (fun i _ => vs.length - (intOf i).toNat)
                  case atStart => exact ⟨0, n7, v7, Nat.zero_le _, rfl, by omega, hst3, hfr3⟩
                  case round =>
                    obtain ⟨k4, n9, v9, hkk4, rfl, hnn4, hst4, hfr4⟩ := hrel
                    have hmm4 := hst4.cnt.lt
                    obtain ⟨z4, -⟩ := hst4.own 0 _ rfl
                    by_cases hlt4 : k4 < vs.length
                    · have hk4 : (k4 : Int) < vs.length := by omega
                      obtain ⟨b', o', rfl, -, g1, hsz⟩ := IsStrs.look (hfr4.rows hP hvsW) hlt4
                      have hszm : vs[k4].size ≤ maxLen := by unfold maxLen; omega
                      have HKY := Lib.hid (WideMaps.keyOf_string_mk (P := Try.prog) (k := 9) Try.underlying9 hszm)
                      first
                        | (have HBT : b = false := HBB.out
                           have HST := Lib.hid (show bdr (k4 + 1) = bdr k4 by rw [HBR.out]; simp only [HBT]; rfl)
                           clear HBT hszm
                           go_wp2_with fail
                           go_roundw
                           case rel => exact ⟨k4 + 1, n9, v9, by omega, by go_num, by omega, hst4.re HST.out.symm, hfr4⟩
                           case measure => simp [intOf]; omega)
                        | (have HBT : b = true := HBB.out
                           have hbk4 : bdr k4 = bd ++ vs[k4] :: vs.drop (k4 + 1) := by rw [HBR.out]; simp only [HBT, if_true]; rw [List.drop_eq_getElem_cons hlt4]
                           have HST := Lib.hid (show bdr (k4 + 1) = bd ++ vs.drop (k4 + 1) by rw [HBR.out]; simp only [HBT, if_true])
                           have hbl4 := HBL.out k4
                           rw [hbk4] at hbl4
                           replace hst4 := hst4.re hbk4
                           have hlk := cnt_look hst4.cnt hszm
                           obtain ⟨D, hD, hown, hat⟩ := hst4.cnt
                           have hcl := cntB_le (bd ++ vs[k4] :: vs.drop (k4 + 1)) vs[k4]
                           have HAT := Lib.hid hat
                           obtain ⟨c4, hc4⟩ : ∃ c, c = cntB (bd ++ vs[k4] :: vs.drop (k4 + 1)) vs[k4] := ⟨_, rfl⟩
                           rw [← hc4] at hlk hcl
                           have Hc4 := Lib.hid hc4
                           clear hc4
                           have hcw : IntKind.i64.wrap ((c4 : Int) - 1) = (c4 : Int) - 1 := IntWalk.i64_in _ (by omega)
                           have hwf := WalkArith.wf_i64 (n := (c4 : Int) - 1) (by omega)
                           have HHK := Lib.hid hbk4
                           clear hat hszm HBT hbk4
                           go_wp2_with (at_mapUpdate; refine wpList_mapUpdate_own _ rfl _ _ _ 168 rfl 9 3 strKeyed Try.underlying168 (plainElem Try.prog 3) mb n9 D rfl hown (by unfold maxLen; omega) _ _ (.string vs[k4].data.toList) rfl rfl HKY.out (.lit (.int .i64 ((c4 : Int) - 1))) [] (plainElem_int Try.underlying3 hwf) ?_; intro w2 hown2 hgrow2)
                           obtain ⟨hst5, hf5⟩ := hst4.turn hgrow2 (cnt_free hD HAT.out (by rw [← Hc4.out]; exact hown2))
                           go_roundw
                           case rel => exact ⟨k4 + 1, n9 + 1, v9, by omega, by go_num, by omega, hst5.re HST.out.symm, hfr4.trans hf5⟩
                           case measure => simp [intOf]; omega)
                    · have hk4 : ¬ (k4 : Int) < vs.length := by omega
                      have hke4 : k4 = vs.length := by omega
                      rw [hke4] at hst4 hnn4
                      clear hke4
                      go_wp2_with fail
                      go_returns
                      exact ⟨rfl, n9, v9, by omega, hst4.re HR1.out, (NFr.of_ext hxW _).trans hfr4⟩
end Go.Proofs.Ytnclgkdpafhogaa
namespace Go.Proofs.Ytnclgkdpafhogaa
open Go.ChangeShapes Go.WideShapes Go.ChangeAt Go.RowKit Go.Maps
set_option maxHeartbeats 2000000 in
set_option maxRecDepth 100000 in
theorem free_any (f : Fm) (hs : f.size ≤ 4194304) (P : Nat → Prop) (w : World) (x y z u : Value) (ht : IsFm P w x y z u f) :
    Calls Try.prog 98 #[.agg #[x, y, z, u]] w fun e w' => ∃ v, e = .returned v ∧ StrRow w.heap.size w' v f.freeS ∧ Ext w w' := by
  have ht' : IsFm (fun b => P b ∧ b < w.heap.size) w x y z u f := Dat.Fs.mono ht fun b h1 h2 => ⟨h1, h2⟩
  have HF := Lib.hid (fun (nb mb : Nat) w' (hx : Ext w w') (hn : w.heap.size ≤ nb) (hm : w.heap.size ≤ mb) (hst : NSt nb mb w' 0 [] [] (.slice none 0 0)) => namesFm_any f _ nb mb w' x y z u 0 [] [] (.slice none 0 0) (ht'.ext hx) hs (by simp only [List.length_nil]; omega) (fun b hb => ⟨by have := hb.2; omega, by have := hb.2; omega, by simp [Value.ownBlock]⟩) hst (by omega) (by simp only [List.length_nil]; omega))
  obtain ⟨b1, c1, b2, c2, b3, c3, rfl, rfl, rfl, rfl, -⟩ := ht.form
  clear ht ht'
  have hmm := @run_makeMap Try.prog
  obtain ⟨W, hW⟩ : ∃ W, W = w.alloc (.cells #[.int .i64 f.op, .slice b1 f.vars.length c1, .slice b2 f.terms.length c2, .slice b3 f.args.length c3] 27) := ⟨_, rfl⟩
  have hxW : Ext w W := by rw [hW]; exact ext_alloc _ _
  obtain ⟨⟨k0, -⟩, ⟨k1, -⟩, ⟨k2, -⟩, ⟨k3, -⟩⟩ := (own4 w (.int .i64 f.op) (.slice b1 f.vars.length c1) (.slice b2 f.terms.length c2) (.slice b3 f.args.length c3) 27).cells4
  rw [← hW] at k0 k1 k2 k3
  obtain ⟨V, hV⟩ : ∃ V, V = (W.alloc (.map #[] 0)).alloc (.cells #[.map (some W.heap.size), .slice none 0 0] 170) := ⟨_, rfl⟩
  have hxV : Ext W V := by rw [hV]; exact (ext_alloc _ _).trans (ext_alloc _ _)
  have hst : NSt (W.heap.size + 1) W.heap.size V 0 [] [] (.slice none 0 0) := by
    refine ⟨?_, ?_, StrRow.nil, by omega⟩
    · have := own2 (W.alloc (.map #[] 0)) (.map (some W.heap.size)) (.slice none 0 0) 170
      rw [World.size_alloc] at this
      rw [hV]; exact this
    · have h1 := cnt_new W
      have h2 := cnt_keep (w' := V) h1 (by rw [hV]; exact (ext_alloc _ _).block W.heap.size (by simp))
      have h3 : (fun _ => 0 : ByteArray → Nat) = cntB [] := by funext s; rfl
      rw [← h3]; exact h2
  replace k0 := hxV.cell k0
  replace k1 := hxV.cell k1
  replace k2 := hxV.cell k2
  replace k3 := hxV.cell k3
  have hWs := hxW.size
  have HG := Lib.hid (HF.out (W.heap.size + 1) W.heap.size V (hxW.trans hxV) (by omega) (by omega) hst)
  clear HF hst hWs
  go_enter Try.func98, Try.ntmps98
  go_upto_region 1 with fail
  rw [← hW]
  clear hW
  go_upto_region 2 with fail
  rw [← hV]
  clear hV
  go_wp2_with (go_at_call 114; refine (HG.out).mono ?_; rintro e w3 ⟨rfl, n3, v3, -, hst3, hf3⟩; (obtain ⟨a3, c3, rfl, -, -⟩ := hst3.row.strs); (obtain ⟨q1, -⟩ := hst3.own 1 _ rfl))
  go_ret
  have hsz := hxW.size
  exact ⟨_, rfl, GRow.down hst3.row (by omega), Chg.ext (hxW.trans hxV) hf3.chg (fun i hi => by simp [Value.ownBlock] at hi; omega)⟩
end Go.Proofs.Ytnclgkdpafhogaa
