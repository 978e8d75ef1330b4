/- Plain: an include, way by way; which files are open. No condition.
slices.DeleteFunc on a row of entries of the call's own: those with names of a list stay. Condition: at most 2^20 entries.
(*loader).include: an include behind its first token. Condition: at most 8001 tokens, at most 2^20 files.
What a reading of a text does where it is left: read$1, Read$1. Condition: a row of at most 2^30 tokens. -/
import Derived.Test.YtnclgkdpafhogaaQi26
import Derived.Test.YtnclgkdpafhogaaQi24
import Derived.Test.YtnclgkdpafhogaaQi18
import Derived.Defers
import Derived.Recover
namespace Go.Proofs.Ytnclgkdpafhogaa
open Go.ChangeShapes Go.WideShapes Go.ChangeAt Go.RowKit Go.Maps
section
variable {ks r1 r2 r3 r4 r5 r : List Tok} {u1 u4 u5 : Unit} {fn : ByteArray} {ns : Option (List (ByteArray × Int))}
theorem incHead_1 (h1 : mustS sLpar ks = .bad r) : incHead ks = .bad r := by simp [incHead, h1]
theorem incHead_2 (h1 : mustS sLpar ks = .ok u1 r1) (h2 : kindK 4 r1 = .bad r) : incHead ks = .bad r := by simp [incHead, h1, h2]
theorem incHead_3 (h1 : mustS sLpar ks = .ok u1 r1) (h2 : kindK 4 r1 = .ok fn r2) (h3 : incNames r2 = .bad r) : incHead ks = .bad r := by simp [incHead, h1, h2, h3]
theorem incHead_4 (h1 : mustS sLpar ks = .ok u1 r1) (h2 : kindK 4 r1 = .ok fn r2) (h3 : incNames r2 = .ok ns r3) (h4 : mustS sRpar r3 = .bad r) : incHead ks = .bad r := by simp [incHead, h1, h2, h3, h4]
theorem incHead_5 (h1 : mustS sLpar ks = .ok u1 r1) (h2 : kindK 4 r1 = .ok fn r2) (h3 : incNames r2 = .ok ns r3) (h4 : mustS sRpar r3 = .ok u4 r4) (h5 : mustS sDot r4 = .bad r) : incHead ks = .bad r := by simp [incHead, h1, h2, h3, h4, h5]
theorem incHead_ok (h1 : mustS sLpar ks = .ok u1 r1) (h2 : kindK 4 r1 = .ok fn r2) (h3 : incNames r2 = .ok ns r3) (h4 : mustS sRpar r3 = .ok u4 r4) (h5 : mustS sDot r4 = .ok u5 r5) : incHead ks = .ok (fn, (peekT r1).at', ns) r5 := by simp [incHead, h1, h2, h3, h4, h5]
end
section
variable {ks r1 r2 r3 r4 r : List Tok} {u2 u4 : Unit} {l : List (ByteArray × Int)}
theorem incNames_none (h : takeS sComma ks = none) : incNames ks = .ok none ks := by simp [incNames, h]
theorem incNames_1 (h : takeS sComma ks = some r1) (h2 : mustS sLbra r1 = .bad r) : incNames ks = .bad r := by simp [incNames, h, h2]
theorem incNames_2 (h : takeS sComma ks = some r1) (h2 : mustS sLbra r1 = .ok u2 r2) (h3 : rowR nameAt sComma r2 = .bad r) : incNames ks = .bad r := by simp [incNames, h, h2, h3]
theorem incNames_3 (h : takeS sComma ks = some r1) (h2 : mustS sLbra r1 = .ok u2 r2) (h3 : rowR nameAt sComma r2 = .ok l r3) (h4 : mustS sRbra r3 = .bad r) : incNames ks = .bad r := by simp [incNames, h, h2, h3, h4]
theorem incNames_ok (h : takeS sComma ks = some r1) (h2 : mustS sLbra r1 = .ok u2 r2) (h3 : rowR nameAt sComma r2 = .ok l r3) (h4 : mustS sRbra r3 = .ok u4 r4) : incNames ks = .ok (some l) r4 := by simp [incNames, h, h2, h3, h4]
/-- a row of names, name by name -/
theorem rowN_bad (h : nameAt ks = .bad r) : rowR nameAt sComma ks = .bad r := by simp [rowR, h]
theorem rowN_last {x : ByteArray × Int} (h : nameAt ks = .ok x r1) (h2 : takeS sComma r1 = none) : rowR nameAt sComma ks = .ok [x] r1 := by
  unfold rowR
  rw [h, Rd.bind_ok, more_eq (nameAt_shrinks _), h2]
  rfl
theorem rowN_more {x : ByteArray × Int} (h : nameAt ks = .ok x r1) (h2 : takeS sComma r1 = some r2) : rowR nameAt sComma ks = (rowR nameAt sComma r2).map (x :: ·) := by
  conv => lhs; unfold rowR
  rw [h, Rd.bind_ok, more_eq (nameAt_shrinks _), h2]
  rfl
end
section
variable {rd : Nat → Nat → Nat → Out (List Ent × Nat)} {files : List (ByteArray × ByteArray)} {opn : Nat → Bool} {l ks r : List Tok} {file qat : Int} {n cnt i : Nat} {fn : ByteArray} {ns : Option (List (ByteArray × Int))}
theorem incR_head (h : incHead ks = .bad r) : incR rd files opn l file n cnt ks = .flt (itemAt l file r) := by unfold incR; rw [h]; rfl
theorem incR_long (h : incHead ks = .ok (fn, qat, ns) r) (hl : 200 < cnt + 1) : incR rd files opn l file n cnt ks = .flt ⟨file, qat, 3⟩ := by unfold incR; rw [h, Rd.out_ok, if_pos hl]
theorem incR_miss (h : incHead ks = .ok (fn, qat, ns) r) (hl : ¬ 200 < cnt + 1) (hf : findF files fn = none) : incR rd files opn l file n cnt ks = .flt ⟨file, qat, 244⟩ := by unfold incR; rw [h, Rd.out_ok, if_neg hl]; simp only [hf]
theorem incR_cycle (h : incHead ks = .ok (fn, qat, ns) r) (hl : ¬ 200 < cnt + 1) (hf : findF files fn = some i) (ho : opn i = true) : incR rd files opn l file n cnt ks = .flt ⟨file, qat, 245⟩ := by
  unfold incR; rw [h, Rd.out_ok, if_neg hl]; simp only [hf]; rw [if_pos ho]
theorem incR_read (h : incHead ks = .ok (fn, qat, ns) r) (hl : ¬ 200 < cnt + 1) (hf : findF files fn = some i) (ho : opn i = false) : incR rd files opn l file n cnt ks = (rd i n (cnt + 1)).bind fun x => (chosen file ns x.1).bind fun l' => .ok ((l', x.2), r) := by
  unfold incR; rw [h, Rd.out_ok, if_neg hl]; simp only [hf]; rw [if_neg (by rw [ho]; decide)]
end
theorem findF_first (files : List (ByteArray × ByteArray)) (nm : ByteArray) : (findF files nm = none ∧ firstI (fun x => decide (x.1 = nm)) files = -1) ∨ ∃ i, findF files nm = some i ∧ i < files.length ∧ firstI (fun x => decide (x.1 = nm)) files = i := by
  unfold findF firstI
  cases h : files.findIdx? fun x => decide (x.1 = nm) with
  | none => exact .inl ⟨rfl, rfl⟩
  | some i =>
    rw [List.findIdx?_eq_some_iff_getElem] at h
    exact .inr ⟨i, rfl, h.1, rfl⟩

theorem intKeyed : Keyed Try.prog 3 := Maps.int_keyed Try.underlying3
/-- the map holds which files are open; so many stores were made -/
def OMap (w : World) (mb n : Nat) (opn : Nat → Bool) : Prop :=
  ∃ D : DataW Unit, IsMap D ∧ w.ownsMap Try.prog 3 (plainElem Try.prog 4) mb n D ∧ ∀ k : Nat, k ≤ 1073741824 → D.atKey (.int .i64 k) (.lit (.bool false)) = .lit (.bool (opn k))
theorem key_int {k : Nat} (hk : k ≤ 1073741824) : keyOf Try.prog 3 (.int .i64 k) = some (.int .i64 k) := Maps.keyOf_int_mk Try.underlying3 (WalkArith.wf_i64 ⟨by omega, by omega⟩)
set_option maxRecDepth 100000 in
theorem omap_look {w : World} {mb n : Nat} {opn : Nat → Bool} (h : OMap w mb n opn) {k : Nat} (hk : k ≤ 1073741824) :
    (Instr.lookup 79 (.map (some mb)) (.int .i64 k) false).run Try.prog w = .ok (.bool (opn k)) w := by
  obtain ⟨D, hD, hown, hat⟩ := h
  obtain ⟨v, ps, hrun, hv⟩ := hown.lookup intKeyed Try.underlying79 (z := .bool false) (by kernel_rfl) (plainElem_bool Try.underlying4 false) (key_int hk)
  obtain ⟨b, rfl, hz⟩ := plainElem_bool_inv hv
  rw [hat k hk] at hz
  injection hz with h1 h2
  injection h1 with h1
  injection h1 with h1
  rw [hrun, ← h1]
theorem OMap.lt {w : World} {mb n : Nat} {opn : Nat → Bool} (h : OMap w mb n opn) : mb < w.heap.size := by
  obtain ⟨D, hD, hown, hat⟩ := h
  exact hown.lt
theorem OMap.keep {w w' : World} {mb n : Nat} {opn : Nat → Bool} (h : OMap w mb n opn) (hx : w'.heap[mb]? = w.heap[mb]?) : OMap w' mb n opn := by
  obtain ⟨D, hD, hown, hat⟩ := h
  obtain ⟨es, clock, hb, F, hs, hDD⟩ := hown
  exact ⟨D, hD, ⟨es, clock, hx.trans hb, F, hs, hDD⟩, hat⟩
theorem OMap.chg {S : List Nat} {w w' : World} {mb n : Nat} {opn : Nat → Bool} (h : OMap w mb n opn) (hx : Chg S w w') (hS : mb ∉ S) : OMap w' mb n opn := h.keep (hx.block mb h.lt hS)
theorem omap_put {w' : World} {mb n : Nat} {opn : Nat → Bool} {D : DataW Unit} (hD : IsMap D) (hat : ∀ k : Nat, k ≤ 1073741824 → D.atKey (.int .i64 k) (.lit (.bool false)) = .lit (.bool (opn k))) {i : Nat} {b : Bool}
    (hown : w'.ownsMap Try.prog 3 (plainElem Try.prog 4) mb (n + 1) (D.put (.int .i64 i) (.lit (.bool b)))) : OMap w' mb (n + 1) (fun k => if k = i then b else opn k) := by
  refine ⟨_, hD.put _ _, hown, fun k hk => ?_⟩
  by_cases he : k = i
  · subst he
    rw [atKey_put_same hD (by exact trivial)]; simp
  · rw [atKey_put_other (fun h => he (by injection h with _ h; omega)), hat k hk]; simp [he]
theorem omap_new (w : World) : OMap (w.alloc (.map #[] 0)) w.heap.size 0 (fun _ => false) := ⟨.map [], ⟨[], rfl⟩, World.ownsMap_made _ _ _ _, fun _ _ => rfl⟩
/-- a loader's block: the files, which of them are open (so deep), how many includes were read -/
def LdSt (xb mb : Nat) (w : World) (files : List (ByteArray × ByteArray)) (cnt dep : Nat) (opn : Nat → Bool) : Prop :=
  ∃ fa fc n, Own w xb [.slice fa files.length fc, .map (some mb), .int .i64 cnt] ∧ files.length ≤ fc ∧ IsFiles (fun b => b < mb) w fa files ∧ OMap w mb n opn ∧ n + dep ≤ 2 * cnt ∧ cnt ≤ 200 ∧ mb < xb ∧ 0 < mb ∧ ∃ m, w.cell? ⟨0, 0, none⟩ = some (.int .i64 m)
theorem LdSt.chg {S : List Nat} {xb mb : Nat} {w w' : World} {files : List (ByteArray × ByteArray)} {cnt dep : Nat} {opn : Nat → Bool} (h : LdSt xb mb w files cnt dep opn) (hx : Chg S w w') (hS : ∀ b ∈ S, xb < b) : LdSt xb mb w' files cnt dep opn := by
  obtain ⟨fa, fc, n, h1, h2, h3, h4, h5, h6, h7, h8, m, h9⟩ := h
  exact ⟨fa, fc, n, h1.chg hx (fun hm => by have := hS xb hm; omega), h2, Dat.Rows.chg h3 hx (fun b hb hm => by have := hS b hm; omega), h4.chg hx (fun hm => by have := hS mb hm; omega), h5, h6, h7, h8, m, hx.cell h9 (fun hm => by have := hS _ hm; simp only at this; omega)⟩
theorem LdSt.ext {xb mb : Nat} {w w' : World} {files : List (ByteArray × ByteArray)} {cnt dep : Nat} {opn : Nat → Bool} (h : LdSt xb mb w files cnt dep opn) (hx : Ext w w') : LdSt xb mb w' files cnt dep opn := h.chg (Chg.of_ext (S := []) hx) (by simp)
theorem LdSt.lt {xb mb : Nat} {w : World} {files : List (ByteArray × ByteArray)} {cnt dep : Nat} {opn : Nat → Bool} (h : LdSt xb mb w files cnt dep opn) : xb < w.heap.size := by obtain ⟨fa, fc, n, h1, -⟩ := h; exact h1.lt
/-- what a reading of a text does -/
def RdFPost (xb mb : Nat) (files : List (ByteArray × ByteArray)) (dep : Nat) (opn : Nat → Bool) (w : World) (res : Out (List Ent × Nat)) (e : Ending) (w' : World) : Prop :=
  Chg [xb, mb] w w' ∧ match res with
  | .ok x => ∃ v, e = .returned v ∧ EntRow w.heap.size w' v x.1 ∧ LdSt xb mb w' files x.2 dep opn
  | .flt t => Faulted t e
/-- a reader's row of tokens stays where it was -/
def Kp0 (rb : Nat) (w w' : World) : Prop := ∀ u, w.cell? ⟨rb, 0, none⟩ = some u → w'.cell? ⟨rb, 0, none⟩ = some u
theorem Kp0.refl (rb : Nat) (w : World) : Kp0 rb w w := fun _ h => h
theorem Kp0.trans {rb : Nat} {a b c : World} (h : Kp0 rb a b) (k : Kp0 rb b c) : Kp0 rb a c := fun u hu => k u (h u hu)
theorem Kp0.kept {rb : Nat} {a b : World} (h : Kept rb a b) : Kp0 rb a b := fun u hu => h.cell 0 (by decide) u hu
theorem Kp0.chg {S : List Nat} {rb : Nat} {a b : World} (h : Chg S a b) (hS : rb ∉ S) : Kp0 rb a b := fun _u hu => h.cell hu hS
theorem Kp0.ext {rb : Nat} {a b : World} (h : Ext a b) : Kp0 rb a b := fun _u hu => h.cell hu
/-- the tokens of a reader lie above the loader's block -/
def TkAb (xb rb : Nat) (l : List Tok) (w : World) : Prop := ∃ a c, w.cell? ⟨rb, 0, none⟩ = some (.slice a l.length c) ∧ Dat.Rows (fun b => xb < b ∧ b < rb) w a (l.map Tok.dat)
theorem TkAb.chg {S : List Nat} {xb rb : Nat} {l : List Tok} {w w' : World} (h : TkAb xb rb l w) (hx : Chg S w w') (h0 : Kp0 rb w w') (hS : ∀ b ∈ S, b ≤ xb ∨ rb ≤ b) : TkAb xb rb l w' := by
  obtain ⟨a, c, h1, h2⟩ := h
  exact ⟨a, c, h0 _ h1, Dat.Rows.chg h2 hx fun b hb hm => by have := hS b hm; omega⟩
theorem PRd.low {S : List Nat} {xb rb : Nat} {l ks : List Tok} {w w' : World} {file : Int} {v : Value} (h : PRd rb l w ks file v) (ht : TkAb xb rb l w) (hx : Chg S w w') (hS : ∀ b ∈ S, b ≤ xb) (hxr : xb < rb) : PRd rb l w' ks file v := by
  obtain ⟨⟨k1, a, c, k2, k3, k4⟩, ⟨q2, f2⟩, q3, f3⟩ := h
  obtain ⟨a', c', t1, t2⟩ := ht
  have hn : rb ∉ S := fun hm => by have := hS rb hm; omega
  have he := (k2 0 _ rfl).1
  rw [t1] at he
  injection he with he
  injection he with e1 _ _
  subst e1
  exact ⟨⟨k1, a', c, k2.chg hx hn, k3, Dat.Rows.mono (Dat.Rows.chg t2 hx fun b hb hm => by have := hS b hm; omega) fun b hb _ => hb.2⟩, ⟨hx.cell q2 hn, hx.frozen q2 hn f2⟩, hx.cell q3 hn, hx.frozen q3 hn f3⟩
/-- what a reading of an include does -/
def IncPost (rb B xb mb : Nat) (l : List Tok) (file : Int) (v : Value) (out : List Ent) (files : List (ByteArray × ByteArray)) (dep : Nat) (opn : Nat → Bool) (w : World) (res : Out ((List Ent × Nat) × List Tok)) (e : Ending) (w' : World) : Prop :=
  Chg (rb :: xb :: mb :: v.ownBlock.toList) w w' ∧ match res with
  | .ok x => e = .returned (.tuple #[]) ∧ Kp0 rb w w' ∧ ∃ v', PRd rb l w' x.2 file v' ∧ EntRow B w' v' (out ++ x.1.1) ∧ (v'.ownBlock = v.ownBlock ∨ ∀ g, v'.ownBlock = some g → w.heap.size ≤ g) ∧ LdSt xb mb w' files x.1.2 dep opn
  | .flt t => LeftBy rb l file t e w'
theorem IncPost.wrong {rb B xb mb : Nat} {l ks r : List Tok} {file : Int} {v v1 : Value} {out : List Ent} {files : List (ByteArray × ByteArray)} {dep : Nat} {opn : Nat → Bool} {w w' : World} {res : Out ((List Ent × Nat) × List Tok)} {S : List Nat} (hr : res = .flt (itemAt l file r)) (hc : Chg S w w') (hS : ∀ b ∈ S, b = rb ∨ b = xb ∨ b = mb ∨ w.heap.size ≤ b) (h : PRd rb l w' ks file v1) : IncPost rb B xb mb l file v out files dep opn w res (.panicked [wrongV (badAt l r)]) w' := by
  subst hr
  refine ⟨⟨hc.os, hc.tape, hc.output, hc.size, fun b hb hn => hc.block b hb fun hm => ?_⟩, LeftBy.wrong rfl h⟩
  rcases hS b hm with h1 | h1 | h1 | h1
  · exact hn (by simp [h1])
  · exact hn (by simp [h1])
  · exact hn (by simp [h1])
  · omega
theorem IncPost.fault {rb B xb mb : Nat} {l : List Tok} {file : Int} {v : Value} {out : List Ent} {files : List (ByteArray × ByteArray)} {dep : Nat} {opn : Nat → Bool} {w w' : World} {res : Out ((List Ent × Nat) × List Tok)} {S : List Nat} {t t' : Flt} {e : Ending} (hr : res = .flt t') (hc : Chg S w w') (hS : ∀ b ∈ S, b = rb ∨ b = xb ∨ b = mb ∨ w.heap.size ≤ b) (h : Faulted t e) (ht : t = t') : IncPost rb B xb mb l file v out files dep opn w res e w' := by
  subst hr; subst ht
  refine ⟨⟨hc.os, hc.tape, hc.output, hc.size, fun b hb hn => hc.block b hb fun hm => ?_⟩, .inr h⟩
  rcases hS b hm with h1 | h1 | h1 | h1
  · exact hn (by simp [h1])
  · exact hn (by simp [h1])
  · exact hn (by simp [h1])
  · omega
/-- the names that were told of an include, and where they stand -/
def NmSt (base : Nat) (l : List Tok) (w : World) (nb : Nat) (va : Value) (NS : List (ByteArray × Int)) : Prop :=
  ∃ (vn : Value) (ix : List Nat), Own w nb [vn] ∧ StrRow base w vn (NS.map Prod.fst) ∧ GRow (eltDat 1) 3 base w va (ix.map fun k : Nat => [Dat.int (k : Int)]) ∧ ix.length = NS.length ∧ ∀ j (h : j < ix.length) (h' : j < NS.length), ix[j] < l.length ∧ (tokAt l ix[j]).at' = NS[j].2
end Go.Proofs.Ytnclgkdpafhogaa
namespace Go.Proofs.Ytnclgkdpafhogaa
open Go.ChangeShapes Go.WideShapes Go.ChangeAt Go.RowKit
theorem EntRow.ents {B : Nat} {w : World} {v : Value} {l : List Ent} (h : EntRow B w v l) : ∃ a c, v = .slice a l.length c ∧ l.length ≤ c ∧ IsEnts (fun b => B ≤ b) w a l := by
  obtain ⟨a, c, h1, h2, h3⟩ := GRow.dat (by decide) h
  rw [List.length_map] at h1 h2
  exact ⟨a, c, h1, h2, h3⟩
theorem GRow.cellAt {m e B g n cap : Nat} {w : World} {l : List (List Dat)} (h : GRow (eltDat m) e B w (.slice (some ⟨g, 0, none⟩) n cap) l) : (∀ j, j < n * m → (w.cell? ⟨g, j, none⟩).isSome = true) ∧ ∀ j, w.frozen? ⟨g, j, none⟩ = false := by
  obtain ⟨a0, c0, hv0, -⟩ := h.form
  obtain ⟨cs, h1, h2, h3⟩ := h
  injection hv0 with _ hn _
  subst hn
  refine ⟨fun j hj => ?_, fun j => h2.frozenAt j⟩
  rw [h2.cellAt j hj, List.getElem?_eq_getElem (by rw [h2.1]; exact hj)]
  rfl
/-- what stands in the row while it is filtered -/
structure DelSt (B g cap n : Nat) (w wr : World) (p : Ent → Bool) (l : List Ent) (i j : Nat) (K M : List Ent) : Prop where
  row : EntRow B wr (.slice (some ⟨g, 0, none⟩) n cap) (K ++ (M ++ l.drop j))
  kept : K = (l.take j).filter p
  len : K.length = i
  mid : i + M.length = j
  lt : i < j
  le : j ≤ n
  chg : Chg [g] w wr
section
variable {B g cap n : Nat} {w wr : World} {p : Ent → Bool} {l : List Ent} {i j : Nat} {K M : List Ent}
theorem DelSt.at (h : DelSt B g cap n w wr p l i j K M) (hn : n = l.length) (hj : j < n) : (K ++ (M ++ l.drop j))[j]'(by have := h.len; have := h.mid; simp; omega) = l[j] := by
  have h1 := h.len
  have h2 := h.mid
  rw [List.getElem_append_right (by omega), List.getElem_append_right (by omega), List.getElem_drop]
  congr 1
  omega
theorem DelSt.skip (h : DelSt B g cap n w wr p l i j K M) (hn : n = l.length) (hj : j < n) (hp : p l[j] = false) {w2 : World} (hx : Chg [g] wr w2) (hrow : EntRow B w2 (.slice (some ⟨g, 0, none⟩) n cap) (K ++ (M ++ l.drop j))) : DelSt B g cap n w w2 p l i (j + 1) K (M ++ [l[j]]) := by
  have h2 := h.mid
  have h3 := h.lt
  refine ⟨?_, ?_, h.len, by simp; omega, by omega, hj, h.chg.trans hx⟩
  · rw [List.append_assoc, List.singleton_append, ← List.drop_eq_getElem_cons (by omega)]
    exact hrow
  · rw [List.take_succ_eq_append_getElem (by omega), List.filter_append, ← h.kept]
    simp [hp]
theorem DelSt.keep (h : DelSt B g cap n w wr p l i j K M) (hn : n = l.length) (hj : j < n) (hp : p l[j] = true) {w2 : World} (hx : Chg [g] wr w2) (hrow : GRow (eltDat 7) 84 B w2 (.slice (some ⟨g, 0, none⟩) n cap) (((K ++ (M ++ l.drop j)).map Ent.dat).set i l[j].dat)) : ∃ K' M', DelSt B g cap n w w2 p l (i + 1) (j + 1) K' M' := by
  have h1 := h.len
  have h2 := h.mid
  have h3 := h.lt
  cases M with
  | nil => simp at h2; omega
  | cons m0 M =>
    refine ⟨K ++ [l[j]], M ++ [l[j]], ?_, ?_, by simp [h1], by simp at h2 ⊢; omega, by omega, hj, h.chg.trans hx⟩
    · unfold EntRow
      rw [← List.map_set] at hrow
      rw [List.set_append_right _ _ (by omega), h1, Nat.sub_self, List.cons_append, List.set_cons_zero] at hrow
      rw [List.append_assoc, List.append_assoc, List.singleton_append, List.singleton_append, ← List.drop_eq_getElem_cons (by omega)]
      exact hrow
    · rw [List.take_succ_eq_append_getElem (by omega), List.filter_append, ← h.kept]
      simp [hp]
theorem DelSt.start (hrow : EntRow B w (.slice (some ⟨g, 0, none⟩) n cap) l) (hn : n = l.length) {k : Nat} (hk : k < l.length) (h : (l.take k).any (fun x => !(p x)) = false) (hp : p l[k] = false) : DelSt B g cap n w w p l k (k + 1) (l.take k) [l[k]] := by
  refine ⟨?_, ?_, by rw [List.length_take]; omega, by simp, by omega, by omega, Chg.refl _ _⟩
  · rw [List.singleton_append, ← List.drop_eq_getElem_cons hk, List.take_append_drop]
    exact hrow
  · rw [List.take_succ_eq_append_getElem hk, List.filter_append]
    have : (l.take k).filter p = l.take k := by
      rw [List.filter_eq_self]
      intro x hx
      have := List.any_eq_false.1 h x hx
      simpa using this
    rw [this]
    simp [hp]
end
theorem EntRow.at {B g n cap : Nat} {w : World} {l : List Ent} (h : EntRow B w (.slice (some ⟨g, 0, none⟩) n cap) l) {j : Nat} (hj : j < l.length) : ∃ x0 x1 x2 x3, (w.cell? ⟨g, j * 7, none⟩ = some (.bool l[j].cnf) ∧ w.cell? ⟨g, j * 7 + 1, none⟩ = some (.string l[j].name) ∧ w.cell? ⟨g, j * 7 + 2, none⟩ = some (.string l[j].role)) ∧
    (w.cell? ⟨g, j * 7 + 3, none⟩ = some x0 ∧ w.cell? ⟨g, j * 7 + 4, none⟩ = some x1 ∧ w.cell? ⟨g, j * 7 + 5, none⟩ = some x2 ∧ w.cell? ⟨g, j * 7 + 6, none⟩ = some x3) ∧ IsEnt (fun b => B ≤ b ∧ b ≠ g) w x0 x1 x2 x3 l[j] := by
  obtain ⟨g', cap', cs, hv, -, -, -, h1, h2, h3⟩ := GRow.at h (j := j) (by rw [List.length_map]; exact hj)
  injection hv with e1 _ _
  injection e1 with e1; injection e1 with e1 _ _
  subst e1
  rw [List.getElem_map] at h1
  obtain ⟨x0, x1, x2, x3, rfl, h4⟩ := IsEnt.of_fs h1.2
  exact ⟨x0, x1, x2, x3, ⟨h3 0 _ rfl, h3 1 _ rfl, h3 2 _ rfl⟩, ⟨h3 3 _ rfl, h3 4 _ rfl, h3 5 _ rfl, h3 6 _ rfl⟩, h4.1, h4.2.1, Dat.Fs.mono h4.2.2 fun b hb _ => ⟨hb.1, fun e => hb.2 (by rw [e]; rfl)⟩⟩
theorem firstI_cases {α : Type} (p : α → Bool) (l : List α) : (firstI p l = -1 ∧ l.any p = false) ∨ ∃ k, ∃ hk : k < l.length, firstI p l = k ∧ (l.take k).any p = false ∧ p l[k] = true := by
  cases h : l.findIdx? p with
  | none =>
    rw [List.findIdx?_eq_none_iff] at h
    refine .inl ⟨?_, ?_⟩
    · apply firstI_none; rw [List.any_eq_false]; intro x hx; simpa using h x hx
    · rw [List.any_eq_false]; intro x hx; simpa using h x hx
  | some k =>
    rw [List.findIdx?_eq_some_iff_getElem] at h
    obtain ⟨hk, hp, ha⟩ := h
    have hany : (l.take k).any p = false := by
      rw [List.any_eq_false]
      intro x hx
      obtain ⟨i, hi, rfl⟩ := List.getElem_of_mem hx
      rw [List.length_take] at hi
      rw [List.getElem_take]
      simpa using ha i (by omega)
    exact .inr ⟨k, hk, firstI_at hk hany hp, hany, hp⟩
set_option maxHeartbeats 8000000 in
set_option maxRecDepth 100000 in
theorem delete_any {l : List Ent} (hl : l.length ≤ 1048576) {B : Nat} {w : World} {v : Value} (hrow : EntRow B w v l) {Q : Nat → Prop} {nb nc : Nat} {na : Option Addr} {ns : List ByteArray} (hf : w.cell? ⟨nb, 0, none⟩ = some (.slice na ns.length nc)) (hns : IsStrs Q w na ns) (hnl : ns.length ≤ 1073741824) (hnb : nb < B) (hQ : ∀ b, Q b → v.ownBlock ≠ some b) :
    Calls Try.prog 82 #[v, .func (.func 83) #[] #[.pointer (some ⟨nb, 0, none⟩)]] w fun e w' => (∃ v', e = .returned v' ∧ EntRow B w' v' (l.filter fun x => inB ns x.name) ∧ v'.ownBlock = v.ownBlock) ∧ Chg v.ownBlock.toList w w' := by
  obtain ⟨a, c, rfl, hc, hents⟩ := hrow.ents
  have HI := Lib.hid (idxEnt3_any (by omega) (c := c) hents hf hns hnl)
  have HROW := Lib.hid hrow
  rcases firstI_cases (fun x : Ent => !(inB ns x.name)) l with ⟨hk, hany⟩ | ⟨k, hkl, hk, hany, hpk⟩
  · rw [hk] at HI
    have hfil : l.filter (fun x => inB ns x.name) = l := by
      rw [List.filter_eq_self]
      intro x hx
      have := List.any_eq_false.1 hany x hx
      simpa using this
    have HFIL := Lib.hid hfil
    clear hk hany hrow hfil hents
    go_enter Try.func82, Try.ntmps82
    go_wp2_with (go_at_call 99; refine (HI.out).mono ?_; rintro e w1 ⟨rfl, hx1⟩)
    go_ret
    exact ⟨⟨_, rfl, by rw [HFIL.out]; exact GRow.ext HROW.out hx1, rfl⟩, Chg.of_ext hx1⟩
  · rw [hk] at HI
    obtain ⟨g, cap, hv, hg1, hg2⟩ : ∃ g cap, (Value.slice a l.length c) = .slice (some ⟨g, 0, none⟩) l.length cap ∧ B ≤ g ∧ g < w.heap.size := by
      obtain ⟨g, cap, cs, h1, h2, h3, -⟩ := GRow.at hrow (j := k) (by rw [List.length_map]; exact hkl)
      rw [List.length_map] at h1
      exact ⟨g, cap, h1, h2, h3⟩
    injection hv with hv1 _ hv3
    subst hv1; subst hv3
    have hQg : ∀ b, Q b → b ≠ g := fun b hb e => hQ b hb (by rw [e]; rfl)
    have hng : nb ≠ g := by omega
    have HST := Lib.hid (fun w1 (hx1 : Ext w w1) => (DelSt.start (p := fun x => inB ns x.name) (GRow.ext HROW.out hx1) rfl hkl hany (by simpa using hpk)))
    have hkc : ((k : Int) == -1) = false := by rw [beq_eq_false_iff_ne]; omega
    have HW := Lib.hid hf
    clear hk hany hpk hrow hents hf
    go_enter Try.func82, Try.ntmps82
    go_wp2_with (go_at_call 99; refine (HI.out).mono ?_; rintro e w1 ⟨rfl, hx1⟩)
    go_loopw [5, 6] (fun x y wr => ∃ (i j : Nat) (K M : List Ent), x = .int .i64 i ∧ y = .int .i64 j ∧ DelSt B g c l.length w1 wr (fun x => inB ns x.name) l i j K M) (fun _ y _ => l.length - (intOf y).toNat)
    case atStart => exact ⟨k, k + 1, _, _, rfl, by go_num, HST.out w1 hx1⟩
    case round =>
      obtain ⟨i, j, K, M, rfl, rfl, hst⟩ := hrel
      have HS := Lib.hid hst
      obtain ⟨hlen, hmid, hlt, hle⟩ : K.length = i ∧ i + M.length = j ∧ i < j ∧ j ≤ l.length := ⟨hst.len, hst.mid, hst.lt, hst.le⟩
      have hcx : Chg [g] w wr := (Chg.of_ext hx1).trans hst.chg
      by_cases hjl : j < l.length
      · have hj1 : (j : Int) < l.length := by omega
        have HLEN := Lib.hid (show (K ++ (M ++ l.drop j)).length = l.length by simp; omega)
        obtain ⟨x0, x1, x2, x3, ⟨g1, g2, g3⟩, ⟨g4, g5, g6, g7⟩, hi⟩ := hst.row.at (j := j) (by rw [HLEN.out]; exact hjl)
        have hat := hst.at rfl hjl
        rw [hat] at g1 g2 g3 hi
        obtain ⟨d1, e1, d2, e2, d3, e3, rfl, rfl, rfl, rfl, -⟩ := hi.2.2.form
        have HE := Lib.hid (fun o => inc3_any (w := wr.alloc o) (hi.ext (ext_alloc wr o)) ((ext_alloc wr o).cell (hcx.cell HW.out (by simpa using hng))) (Dat.Rows.ext (Dat.Rows.chg hns hcx (fun b hb => by simpa using hQg b hb)) (ext_alloc wr o)) hnl)
        unfold entV at HE
        have HI2 := Lib.hid hi
        clear hi hat hst
        have hj0 : 0 < l.length := by omega
        cases hp : inB ns l[j].name with
        | false =>
          rw [hp] at HE
          have HP := Lib.hid hp
          clear hp
          go_wp2_with (go_at_call 83; refine (HE.out _).mono ?_; rintro e w2 ⟨rfl, hx2⟩; have hb2 := (own_alloc wr #[.bool l[j].cnf, .string l[j].name, .string l[j].role, .int .i64 l[j].form.op, .slice d1 l[j].form.vars.length e1, .slice d2 l[j].form.terms.length e2, .slice d3 l[j].form.args.length e3] 84).ext hx2; simp only [] at hb2; (obtain ⟨⟨n0, n1, n2⟩, ⟨n3, n4, n5, n6⟩, nl⟩ := own_cells7 hb2))
          go_roundw
          case rel => exact ⟨i, j + 1, _, _, rfl, by go_num, HS.out.skip rfl hjl HP.out (Chg.of_ext ((ext_alloc _ _).trans hx2)) (GRow.ext HS.out.row ((ext_alloc _ _).trans hx2))⟩
          case measure => simp [intOf]; omega
        | true =>
          rw [hp] at HE
          have HP := Lib.hid hp
          have hi1 : (i : Int) < l.length := by omega
          clear hp
          go_wp2_with (go_at_call 83; refine (HE.out _).mono ?_; rintro e w2 ⟨rfl, hx2⟩; have hb2 := (own_alloc wr #[.bool l[j].cnf, .string l[j].name, .string l[j].role, .int .i64 l[j].form.op, .slice d1 l[j].form.vars.length e1, .slice d2 l[j].form.terms.length e2, .slice d3 l[j].form.args.length e3] 84).ext hx2; simp only [] at hb2; (obtain ⟨⟨n0, n1, n2⟩, ⟨n3, n4, n5, n6⟩, nl⟩ := own_cells7 hb2); have hrow2 := GRow.ext HS.out.row ((ext_alloc _ _).trans hx2); (obtain ⟨hs1, hs2⟩ := hrow2.cellAt); (obtain ⟨v0, m0⟩ := Option.isSome_iff_exists.1 (hs1 (i * 7) (by omega))); (obtain ⟨v1, m1⟩ := Option.isSome_iff_exists.1 (hs1 (i * 7 + 1) (by omega))); (obtain ⟨v2, m2⟩ := Option.isSome_iff_exists.1 (hs1 (i * 7 + 2) (by omega))); (obtain ⟨v3, m3⟩ := Option.isSome_iff_exists.1 (hs1 (i * 7 + 3) (by omega))); (obtain ⟨v4, m4⟩ := Option.isSome_iff_exists.1 (hs1 (i * 7 + 4) (by omega))); (obtain ⟨v5, m5⟩ := Option.isSome_iff_exists.1 (hs1 (i * 7 + 5) (by omega))); (obtain ⟨v6, m6⟩ := Option.isSome_iff_exists.1 (hs1 (i * 7 + 6) (by omega))); have f0 := hs2 (i * 7); have f1 := hs2 (i * 7 + 1); have f2 := hs2 (i * 7 + 2); have f3 := hs2 (i * 7 + 3); have f4 := hs2 (i * 7 + 4); have f5 := hs2 (i * 7 + 5); have f6 := hs2 (i * 7 + 6); have ml := cell_lt m0; have HR2 := Lib.hid hrow2; clear hs1 hs2 hrow2)
          go_roundw
          case rel =>
            have hil : i < ((K ++ (M ++ l.drop j)).map Ent.dat).length := by rw [List.length_map, HLEN.out]; omega
            obtain ⟨q1, q2⟩ := GRow.put HR2.out hil (x := l[j].dat) (c := [.bool l[j].cnf, .string l[j].name, .string l[j].role, .int .i64 l[j].form.op, .slice d1 l[j].form.vars.length e1, .slice d2 l[j].form.terms.length e2, .slice d3 l[j].form.args.length e3]) ⟨rfl, IsEnt.fs (HI2.out.ext ((ext_alloc _ _).trans hx2))⟩
            obtain ⟨K', M', hd⟩ := HS.out.keep rfl hjl HP.out ((Chg.of_ext ((ext_alloc _ _).trans hx2)).trans q2) q1
            exact ⟨i + 1, j + 1, K', M', by go_num, by go_num, hd⟩
          case measure => simp [intOf]; omega
      · have hj1 : ¬ (j : Int) < l.length := by omega
        have hje : j = l.length := by omega
        have HF := Lib.hid (show K = l.filter (fun x => inB ns x.name) by rw [hst.kept, hje, List.take_length])
        obtain ⟨hs1, hs2⟩ := hst.row.cellAt
        obtain ⟨us, hcl⟩ := run_clear_cells (w := wr) (t := 38) (m := 7) (b := g) (o := i * 7) (n := l.length - i) (c := c - i) Try.underlying38 Try.zeroValue84 rfl (by decide) (by decide) (fun t ht => hs1 _ (by omega)) (fun t _ => hs2 _)
        clear hs1 hs2 hst hje
        have hi1 : (i : Int) ≤ l.length := by omega
        go_wp2_with fail
        go_ret
        have hrow2 : GRow (eltDat 7) 84 B wr (.slice (some ⟨g, 0, none⟩) i c) (K.map Ent.dat) := by
          have h1 := GRow.take HS.out.row (k := i) (by rw [List.length_map]; simp; omega)
          rw [← List.map_take, List.take_append_of_le_length (by omega), List.take_of_length_le (by omega)] at h1
          exact h1
        obtain ⟨q1, q2⟩ := GRow.beyond (us := us) (o := i * 7) hrow2 (by rw [List.length_map, hlen]; exact Nat.le_refl _)
        exact ⟨⟨_, rfl, by rw [← HF.out]; exact q1, rfl⟩, hcx.trans q2⟩
end Go.Proofs.Ytnclgkdpafhogaa
namespace Go.Proofs.Ytnclgkdpafhogaa
open Go.ChangeShapes Go.WideShapes Go.ChangeAt Go.RowKit Go.Maps
theorem NmSt.nil {base nb : Nat} {l : List Tok} {w : World} (h : Own w nb [.slice none 0 0]) : NmSt base l w nb (.slice none 0 0) [] :=
  ⟨_, [], h, StrRow.nil, GRow.nil, rfl, fun j h => by simp at h⟩
theorem NmSt.chg {S : List Nat} {base nb : Nat} {l : List Tok} {w w' : World} {va : Value} {NS : List (ByteArray × Int)} (h : NmSt base l w nb va NS) (hx : Chg S w w') (hS : ∀ b ∈ S, b < base ∧ b ≠ nb) : NmSt base l w' nb va NS := by
  obtain ⟨vn, ix, h1, h2, h3, h4, h5⟩ := h
  exact ⟨vn, ix, h1.chg hx (fun hm => (hS nb hm).2 rfl), GRow.chg h2 hx (fun b hb => (hS b hb).1), GRow.chg h3 hx (fun b hb => (hS b hb).1), h4, h5⟩
theorem NmSt.ext {base nb : Nat} {l : List Tok} {w w' : World} {va : Value} {NS : List (ByteArray × Int)} (h : NmSt base l w nb va NS) (hx : Ext w w') : NmSt base l w' nb va NS := h.chg (Chg.of_ext (S := []) hx) (by simp)
theorem StrRow.but {S : List Nat} {B : Nat} {w w' : World} {v : Value} {l : List ByteArray} (h : StrRow B w v l) (hx : Chg S w w') (hS : ∀ g, v.ownBlock = some g → g ∉ S) : StrRow B w' v l := by
  obtain ⟨ho, hs⟩ := h.own
  exact StrRow.of (own_keep ho fun g hg hl => hx.block g hl (hS g hg)) hs
def IxRow (B : Nat) (w : World) (v : Value) (ix : List Nat) : Prop := GRow (eltDat 1) 3 B w v (ix.map fun k : Nat => [Dat.int (k : Int)])
theorem fs_int {P Q : Nat → Prop} {w w' : World} {k : Int} : ∀ {vs : List Value}, Dat.Fs P w vs [Dat.int k] → Dat.Fs Q w' vs [Dat.int k]
  | [], h => h.elim
  | [_], h => h
  | _ :: _ :: _, h => h.2.elim
theorem IxRow.but {S : List Nat} {B : Nat} {w w' : World} {v : Value} {ix : List Nat} (h : IxRow B w v ix) (hx : Chg S w w') (hS : ∀ g, v.ownBlock = some g → g ∉ S) : IxRow B w' v ix := by
  obtain ⟨cs, h1, h2, h3⟩ := h
  refine ⟨cs, h1, own_keep h2 fun g hg hl => hx.block g hl (hS g hg), fun j hj hj' => ?_⟩
  have := h3 j hj hj'
  rw [List.getElem_map] at this ⊢
  exact ⟨this.1, fs_int this.2⟩
theorem rows_apart {α β : Type} {E : Elt α} {F : Elt β} {e e' B B' : Nat} {w : World} {v v' : Value} {l : List α} {m : List β} (h : GRow E e B w v l) (k : GRow F e' B' w v' m) (he : e ≠ e') {g : Nat} (hg : v.ownBlock = some g) : v'.ownBlock ≠ some g := by
  intro hg'
  obtain ⟨cs, -, ⟨-, h2⟩, -⟩ := h
  obtain ⟨ds, -, ⟨-, k2⟩, -⟩ := k
  rcases h2 with ⟨rfl, -⟩ | ⟨g1, c1, cur1, rfl, -, hb1, -⟩
  · cases hg
  · rcases k2 with ⟨rfl, -⟩ | ⟨g2, c2, cur2, rfl, -, hb2, -⟩
    · cases hg'
    · injection hg with hg
      injection hg' with hg'
      simp only at hg hg'
      subst hg
      subst hg'
      rw [hb1] at hb2
      injection hb2 with hb2
      injection hb2 with _ hb2 _
      exact he hb2
/-- a name is put into the row of names -/
theorem nm_put {rb nb : Nat} {l r rr : List Tok} {file : Int} {v va vn vn' : Value} {w3 w6 w7 w8 : World} {pre : List (ByteArray × Int)} {ix : List Nat} {x : ByteArray} {o : Obj} (hrn : rb < nb) (hrb : rb < w3.heap.size) (hnb : nb < w3.heap.size) (hB : Own w6 nb [vn]) (hk7 : Kept rb w6 w7) (hq : StrRow w3.heap.size w6 vn (pre.map Prod.fst)) (hix : IxRow w3.heap.size w6 va (ix ++ [l.length - r.length]))
    (hlen : ix.length = pre.length) (hat : ∀ j (h : j < ix.length) (h' : j < pre.length), ix[j] < l.length ∧ (tokAt l ix[j]).at' = pre[j].2) (hr : r <:+ l) (hr0 : 0 < r.length) (hrow8 : GRow (eltDat 1) 9 w3.heap.size w8 vn' (((pre.map Prod.fst).map fun s => [Dat.str s]) ++ [[Dat.str x]])) (hg : (w7.alloc o).grownBy w8 vn.ownBlock)
    (hc7 : Cur rb l w7 rr) (hp : PRd rb l w6 r file v) (C6 : Chg [rb, nb] w3 w6) : NmSt w3.heap.size l (w8.setCell ⟨nb, 0, none⟩ vn') nb va (pre ++ [(x, (peekT r).at')]) ∧ PRd rb l (w8.setCell ⟨nb, 0, none⟩ vn') rr file v ∧ Chg [rb, nb] w3 (w8.setCell ⟨nb, 0, none⟩ vn') ∧ Kp0 rb w6 (w8.setCell ⟨nb, 0, none⟩ vn') := by
  have hge := fun g hg => StrRow.own_ge hq (g := g) hg
  have hrl := hr.length_le
  have c8 : Chg (rb :: vn.ownBlock.toList) w6 w8 := ((hk7.chg.mono (by simp)).trans (Chg.of_ext (S := rb :: vn.ownBlock.toList) (ext_alloc w7 o))).trans (Chg.of_grown hg (fun g h => .inl (by simp [h])))
  have hset : Chg [nb] w8 (w8.setCell ⟨nb, 0, none⟩ vn') := (Chg.refl [nb] w8).setCell _ (.inl (by simp))
  have hn8 : nb ∉ rb :: vn.ownBlock.toList := by
    simp only [List.mem_cons, not_or]
    exact ⟨by omega, fun hm => by have := (hge nb (by simpa using hm)).1; omega⟩
  have hkp : Kp0 rb w6 (w8.setCell ⟨nb, 0, none⟩ vn') := ((Kp0.kept hk7).trans (Kp0.ext (ext_alloc w7 o))).trans ((Kp0.chg (S := vn.ownBlock.toList) (Chg.of_grown hg (fun g h => .inl (by simp [h]))) (fun hm => by have := (hge rb (by simpa using hm)).1; omega)).trans (Kp0.chg hset (by simp; omega)))
  refine ⟨⟨vn', ix ++ [l.length - r.length], ?_, ?_, ?_, by simp [hlen], ?_⟩, ?_, ?_, hkp⟩
  · exact (hB.chg c8 hn8).set (i := 0) (by simp) vn'
  · have : StrRow w3.heap.size w8 vn' ((pre ++ [(x, (peekT r).at')]).map Prod.fst) := by unfold StrRow; rw [List.map_append, List.map_append]; exact hrow8
    exact GRow.chg this hset (by simp; omega)
  · refine GRow.chg (hix.but c8 fun g hg hm => ?_) hset (by simp; omega)
    rcases List.mem_cons.1 hm with h | h
    · subst h; have := (GRow.own_ge hix hg).1; omega
    · exact rows_apart hix hq (by decide) hg (by simpa using h)
  · intro j h h'
    by_cases hj : j < ix.length
    · rw [List.getElem_append_left hj, List.getElem_append_left (by omega)]
      exact hat j hj (by omega)
    · have hje : j = ix.length := by simp at h; omega
      subst hje
      rw [List.getElem_append_right (by omega), List.getElem_append_right (by omega)]
      simp only [hlen, Nat.sub_self, List.getElem_cons_zero]
      exact ⟨by omega, by rw [tokAt_suf hr hr0]⟩
  · have h7 := hp.kept hk7 hc7
    have h8 : PRd rb l w8 rr file v := ((h7.ext (ext_alloc w7 o)).grown (GRow.chg hq hk7.chg (by simp; omega)) hrb hg)
    exact h8.chg hset (by simp; omega)
  · refine (Chg.drop (Below.refl _ _) ((C6.mono (T := rb :: nb :: vn.ownBlock.toList) (by simp)).trans (c8.mono (fun k hk => by simp at hk ⊢; rcases hk with h | h; exact .inl h; exact .inr (.inr h)))) (T := [rb, nb]) ?_).trans (hset.mono (by simp))
    intro i hi
    simp at hi ⊢
    rcases hi with h | h | h
    · exact .inl (.inl h)
    · exact .inl (.inr h)
    · exact .inr (hge i h).1
/-- what came of an include is put behind the rest -/
theorem inc_done {rb B xb mb cnt2 dep : Nat} {l r : List Tok} {file : Int} {v v' : Value} {out l' : List Ent} {files : List (ByteArray × ByteArray)} {opn : Nat → Bool} {w w12 w13 : World} {res : Out ((List Ent × Nat) × List Tok)} {S : List Nat} (hrB : rb < B) (hxr : xb < rb) (_hmx : mb < xb) (hres : res = .ok ((l', cnt2), r)) (P12 : Kp0 rb w w12) (C12 : Chg S w w12) (hS : ∀ b ∈ S, b = rb ∨ b = xb ∨ b = mb ∨ w.heap.size ≤ b)
    (hp : PRd rb l w12 r file v) (hrow : EntRow B w12 v out) (hrow13 : PRow 7 84 B (fun b => B ≤ b) w13 v' (out.map Ent.dat ++ l'.map Ent.dat)) (hfr : RFr w12 v w13 v') (hld : LdSt xb mb w12 files cnt2 dep opn) : IncPost rb B xb mb l file v out files dep opn w res (.returned (.tuple #[])) (w13.setCell ⟨rb, 3, none⟩ v') := by
  subst hres
  have hset : Chg [rb] w13 (w13.setCell ⟨rb, 3, none⟩ v') := (Chg.refl [rb] w13).setCell _ (.inl (by simp))
  have hge := fun g hg => (GRow.own_ge hrow (g := g) hg).1
  have hnr : rb ∉ v.ownBlock.toList := fun hm => by have := hge rb (by simpa using hm); omega
  have hp13 : PRd rb l w13 r file v := hp.chg hfr.chg fun b hb => by have := hge b (by simpa using hb); omega
  have hl13 : LdSt xb mb w13 files cnt2 dep opn := hld.chg hfr.chg fun b hb => by have := hge b (by simpa using hb); omega
  have hD : Chg [rb, xb, mb] w w12 := Chg.drop (Below.refl _ _) C12 fun i hi => by
    rcases hS i hi with h | h | h | h
    · exact .inl (by simp [h])
    · exact .inl (by simp [h])
    · exact .inl (by simp [h])
    · exact .inr h
  refine ⟨(hD.mono (by simp)).trans ((hfr.chg.mono (fun k hk => by simp at hk ⊢; exact .inr (.inr (.inr hk)))).trans (hset.mono (by simp))), rfl, (P12.trans (Kp0.chg hfr.chg hnr)).trans (fun u hu => by rw [World.cell?_setCell_other _ _ _ _ (by simp)]; exact hu), v', hp13.put v', ?_, ?_, hl13.chg hset (by simp; omega)⟩
  · unfold EntRow
    rw [List.map_append]
    exact GRow.chg (hrow13.grow fun _ h => h) hset (by simp; omega)
  · rcases hfr.own with h | h
    · exact .inl h
    · exact .inr fun g hg => Nat.le_trans hD.size (h g hg)
theorem chosen_miss {file : Int} {L : List (ByteArray × Int)} {l : List Ent} {k : Nat} (hk : k < L.length) (h : (L.take k).all (fun p => l.any fun x => decide (x.name = p.1)) = true) (hn : (l.any fun x => decide (x.name = L[k].1)) = false) : chosen file (some L) l = .flt ⟨file, L[k].2, 244⟩ := by
  have hf : L.find? (fun p => !(l.any fun x => decide (x.name = p.1))) = some L[k] := by
    rw [List.find?_eq_some_iff_getElem]
    refine ⟨by simp [hn], k, hk, rfl, fun j hj => ?_⟩
    have := List.all_eq_true.1 h L[j] (by rw [List.mem_iff_getElem]; exact ⟨j, by rw [List.length_take]; omega, by rw [List.getElem_take]⟩)
    simpa using this
  unfold chosen
  simp only [hf]
theorem chosen_all {file : Int} {L : List (ByteArray × Int)} {l : List Ent} (h : L.all (fun p => l.any fun x => decide (x.name = p.1)) = true) : chosen file (some L) l = .ok (l.filter fun x => inB (L.map Prod.fst) x.name) := by
  have hf : L.find? (fun p => !(l.any fun x => decide (x.name = p.1))) = none := by
    rw [List.find?_eq_none]
    intro p hp
    have := List.all_eq_true.1 h p hp
    simpa using this
  have he : (fun x : Ent => L.any fun p => decide (p.1 = x.name)) = fun x => inB (L.map Prod.fst) x.name := by
    funext x
    unfold inB
    rw [List.any_map]
    rfl
  unfold chosen
  simp only [hf, he]
theorem moreF_count {α : Type} {one : List Tok → Rd α} {sep : ByteArray} (h1 : ∀ ks x r, one ks = .ok x r → r.length < ks.length) : ∀ (f : Nat) {ks r : List Tok} {L : List α}, moreF one sep f ks = .ok L r → L.length + r.length ≤ ks.length
  | 0, _, _, _, h => by cases h
  | f + 1, ks, r, L, h => by
    unfold moreF at h
    cases ht : takeS sep ks with
    | none => rw [ht] at h; injection h with h2 h3; subst h2; subst h3; simp
    | some r1 =>
      rw [ht] at h
      simp only at h
      obtain ⟨x, r2, h2, h3⟩ := Go.Proofs.Ytnclgkdpafhogaa.bind_ok h
      obtain ⟨M, h4, h5⟩ := Go.Proofs.Ytnclgkdpafhogaa.map_ok h3
      have := moreF_count h1 f h4
      have := h1 _ _ _ h2
      have := takeS_lt ht
      subst h5
      simp only [List.length_cons]
      omega
theorem incNames_count {ks r : List Tok} {L : List (ByteArray × Int)} (h : incNames ks = .ok (some L) r) : L.length ≤ ks.length := by
  unfold incNames at h
  split at h
  · cases h
  · rename_i r1 ht
    obtain ⟨_, r2, h1, h⟩ := Go.Proofs.Ytnclgkdpafhogaa.bind_ok h
    obtain ⟨M, r3, h2, h⟩ := Go.Proofs.Ytnclgkdpafhogaa.bind_ok h
    obtain ⟨_, h3, h4⟩ := Go.Proofs.Ytnclgkdpafhogaa.map_ok h
    injection h4 with h4
    subst h4
    unfold rowR at h2
    obtain ⟨x, r4, h5, h6⟩ := Go.Proofs.Ytnclgkdpafhogaa.bind_ok h2
    obtain ⟨z, h7, h8⟩ := Go.Proofs.Ytnclgkdpafhogaa.map_ok h6
    subst h8
    have h1' : ∀ ks x r, nameAt ks = .ok x r → r.length < ks.length := fun ks x r h => nameAt_shrinks ks.length ks x r (Nat.le_refl _) h
    have := moreF_count h1' _ h7
    have := h1' _ _ _ h5
    have := mustS_len h1
    have := takeS_lt ht
    simp only [List.length_cons]
    omega
theorem incNames_some {ks r : List Tok} {L : List (ByteArray × Int)} (h : incNames ks = .ok (some L) r) : 0 < L.length := by
  unfold incNames at h
  split at h
  · cases h
  · obtain ⟨_, r2, h1, h⟩ := Go.Proofs.Ytnclgkdpafhogaa.bind_ok h
    obtain ⟨M, r3, h2, h⟩ := Go.Proofs.Ytnclgkdpafhogaa.bind_ok h
    obtain ⟨_, h3, h4⟩ := Go.Proofs.Ytnclgkdpafhogaa.map_ok h
    injection h4 with h4
    subst h4
    unfold rowR at h2
    obtain ⟨x, r4, h5, h6⟩ := Go.Proofs.Ytnclgkdpafhogaa.bind_ok h2
    obtain ⟨z, h7, h8⟩ := Go.Proofs.Ytnclgkdpafhogaa.map_ok h6
    subst h8
    simp
theorem take_res {s : ByteArray} {ks : List Tok} {cb : Nat} {l : List Tok} {w' : World} {e : Ending} (h : match takeS s ks with
    | some r => e = .returned (.bool true) ∧ Cur cb l w' r
    | none => e = .returned (.bool false) ∧ Cur cb l w' ks) : e = .returned (.bool (takeS s ks).isSome) ∧ Cur cb l w' ((takeS s ks).getD ks) := by
  cases ht : takeS s ks with
  | some r => rw [ht] at h; exact h
  | none => rw [ht] at h; exact h
set_option maxHeartbeats 16000000 in
set_option maxRecDepth 100000 in
theorem include_any {l : List Tok} (hl : l.length ≤ 8001) (hE : Ends l) {rb B xb mb : Nat} {t : Tok} {ks : List Tok} {w : World} {file : Int} {v : Value} {out : List Ent} (hsuf : t :: ks <:+ l) (hEk : Ends ks) (h : PRd rb l w ks file v) (hrow : EntRow B w v out) (hrB : rb < B) (hBw : B ≤ w.heap.size)
    {files : List (ByteArray × ByteArray)} {cnt dep : Nat} {opn : Nat → Bool} (hld : LdSt xb mb w files cnt dep opn) (hxr : xb < rb) (hfl : files.length ≤ 1048576) (htk : TkAb xb rb l w) (ahead : Nat) (hah : ahead + out.length ≤ 200) {rd : Nat → Nat → Nat → Out (List Ent × Nat)}
    (hlen : ∀ (i n c : Nat) (x : List Ent × Nat), n ≤ 200 → rd i n c = .ok x → n + x.1.length ≤ 200)
    (HREAD : ∀ (i : Nat) (_hi : i < files.length) (w' : World) (n : Nat), n ≤ 200 → opn i = false → LdSt xb mb w' files (cnt + 1) (dep + 1) (fun k => if k = i then true else opn k) → Calls Try.prog 30 #[.pointer (some ⟨xb, 0, none⟩), .int .i64 i, .string (textOf files i), .int .i64 n] w' (RdFPost xb mb files (dep + 1) (fun k => if k = i then true else opn k) w' (rd i n (cnt + 1)))) :
    Calls Try.prog 55 #[.pointer (some ⟨xb, 0, none⟩), .pointer (some ⟨rb, 0, none⟩), .int .i64 ahead] w (IncPost rb B xb mb l file v out files dep opn w (incR rd files opn l file (ahead + out.length) cnt ks)) := by
  have hne := hE.pos
  have hl2 : l.length ≤ 1073741824 := by omega
  have HM := Lib.hid (fun s w' ks' (h : Cur rb l w' ks') => kmust_any hl2 hne h s)
  have HTK := Lib.hid (fun s w' ks' (h : Cur rb l w' ks') => ktake_any hl2 h s)
  have HNM := Lib.hid (fun w' ks' (h : Cur rb l w' ks') => pname_any hl2 hne h)
  have HK := Lib.hid (fun w' ks' (h : Cur rb l w' ks') => kkind_any hl2 hne h (k := 4) (by decide))
  have HST := Lib.hid (fun w' ks' v' n er (hn : n < l.length) (h : PRd rb l w' ks' file v') => stop_any hl2 h hn er)
  have HRD := Lib.hid HREAD
  have HLEN := Lib.hid hlen
  have HTA := Lib.hid htk
  have hks : ks <:+ l := (List.suffix_cons t ks).trans hsuf
  have hrw := h.1.lt
  have HLD := Lib.hid hld
  have HOUT := Lib.hid hrow
  have HEK := Lib.hid hEk
  clear hsuf hrow hld HREAD hlen hEk htk
  go_enter Try.func55, Try.ntmps55
  go_upto_region 1 with (go_at_call 72; refine (HM.out sLpar _ _ h.1).mono ?_; rintro e w1 ⟨hk1, hm⟩; (rcases rd_ways (mustS sLpar ks) with ⟨r1, hq1⟩ | ⟨u1, r1, hq1⟩); (focus (rw [hq1] at hm; (obtain ⟨rfl, hc1⟩ := hm); exact ⟨rfl, IncPost.wrong (incR_head (incHead_1 hq1)) hk1.chg (by simp) (h.kept hk1 hc1)⟩)); rw [hq1] at hm; (obtain ⟨rfl, hc1⟩ := hm))
  have g1 := h.kept hk1 hc1
  obtain ⟨z1, -, l1⟩ := g1.at1
  go_upto_region 2 with fail
  clear z1
  go_upto_region 3 with (go_at_call 74; refine (HK.out _ _ g1.1).mono ?_; rintro e w2 ⟨hk2, hm⟩; (rcases rd_ways (kindK 4 r1) with ⟨r2, hq2⟩ | ⟨fn, r2, hq2⟩); (focus (rw [hq2] at hm; (obtain ⟨rfl, hc2⟩ := hm); exact ⟨rfl, IncPost.wrong (incR_head (incHead_2 hq1 hq2)) (hk1.trans hk2).chg (by simp) (g1.kept hk2 hc2)⟩)); rw [hq2] at hm; (obtain ⟨rfl, hc2⟩ := hm))
  have g2 := g1.kept hk2 hc2
  have hfns := kindK_size g1.1.toks hq2
  have hr2l : r2.length ≤ 8001 := by have := hc2.1.length_le; omega
  have hr1l : 0 < r1.length := by obtain ⟨tt, rfl, -⟩ := kind_some hq2; simp
  have hr1 : r1 <:+ l := g1.1.1
  have HAT := Lib.hid (show (tokAt l (l.length - r1.length)).at' = (peekT r1).at' by rw [tokAt_suf hr1 hr1l])
  obtain ⟨V2, hV2⟩ : ∃ V2, V2 = (w2.alloc (.cells #[.string fn] 9)).alloc (.cells #[.slice none 0 0] 23) := ⟨_, rfl⟩
  have hs2 := (hk1.trans hk2).chg.size
  have hbf : Own V2 w2.heap.size [.string fn] := by rw [hV2]; exact (own1 w2 _ _).ext (ext_alloc _ _)
  have hbn : Own V2 (w2.heap.size + 1) [.slice none 0 0] := by
    rw [hV2]; have := own1 (w2.alloc (.cells #[.string fn] 9)) (.slice none 0 0) 23
    rw [World.size_alloc] at this; exact this
  have e2 : Ext w2 V2 := by rw [hV2]; exact (ext_alloc _ _).alloc _
  have hsV : V2.heap.size = w2.heap.size + 2 := by rw [hV2]; simp
  have g3 := g2.ext e2
  have K3 : Kept rb w V2 := (hk1.trans hk2).ext e2
  have hrb2 := hc2.lt
  go_upto_region 5 with fail
  rw [← hV2]
  clear hV2 e2 g1 g2 hc1 hc2
  obtain ⟨fb, hfbe⟩ : ∃ fb, fb = w2.heap.size := ⟨_, rfl⟩
  obtain ⟨nb, hnbe⟩ : ∃ nb, nb = w2.heap.size + 1 := ⟨_, rfl⟩
  rw [← hnbe] at hbn
  rw [← hfbe] at hbf
  rw [← hnbe, ← hfbe]
  have hf1 : w.heap.size ≤ fb ∧ rb < fb ∧ fb < nb ∧ nb < V2.heap.size ∧ w.heap.size ≤ nb := ⟨by omega, by omega, by omega, by omega, by omega⟩
  clear hnbe hfbe hsV hs2 hrb2
  obtain ⟨hf2, hf3, hf4, hf5, hf6⟩ := hf1
  go_upto_if 30 with (go_at_call 64; refine (HTK.out sComma _ _ g3.1).mono ?_; rintro e w3 ⟨hk3, hm⟩; (obtain ⟨rfl, hc3⟩ := take_res hm); clear hm)
  have g4 := g3.kept hk3 hc3
  have bf4 := hbf.chg hk3.chg (by simp; omega)
  have bn4 := hbn.chg hk3.chg (by simp; omega)
  have K4 := K3.trans hk3
  have hs4 := hk3.chg.size
  clear hc3 g3 hbf hbn K3
  go_cut [9] from 30 to 56 (fun y9 wx => ∃ (ns : Option (List (ByteArray × Int))) (r3 : List Tok), incNames r2 = .ok ns r3 ∧ NmSt w3.heap.size l wx nb y9 (ns.getD []) ∧ PRd rb l wx r3 file v ∧ Chg [rb, nb] w3 wx ∧ Kp0 rb w3 wx)
  case first =>
    cases ht : takeS sComma r2 with
    | none =>
      rw [ht] at g4
      have HT := Lib.hid ht
      clear ht bf4
      go_wp2_with fail
      go_meet
      exact ⟨none, r2, incNames_none HT.out, NmSt.nil bn4, g4, Chg.refl _ _, Kp0.refl _ _⟩
    | some r3 =>
      rw [ht] at g4
      simp only [Option.getD_some] at g4
      have HT := Lib.hid ht
      clear ht bf4
      go_wp2_with (go_at_call 72; refine (HM.out sLbra _ _ g4.1).mono ?_; rintro e w5 ⟨hk5, hm⟩; (rcases rd_ways (mustS sLbra r3) with ⟨r4, hq4⟩ | ⟨u4, r4, hq4⟩); (focus (rw [hq4] at hm; (obtain ⟨rfl, hc5⟩ := hm); exact ⟨rfl, IncPost.wrong (incR_head (incHead_3 hq1 hq2 (incNames_1 HT.out hq4))) (K4.trans hk5).chg (by simp) (g4.kept hk5 hc5)⟩)); rw [hq4] at hm; (obtain ⟨rfl, hc5⟩ := hm))
      have g5 := g4.kept hk5 hc5
      have hq5 := Lib.hid hq4
      clear hc5 hq4 g4
      obtain ⟨i0, hi0, hz0, hz1', hz2'⟩ := info_parts infoInt
      obtain ⟨j0, hj0, jz0, jz1', jz2'⟩ := info_parts info_str
      go_loopg [9] r4.length (fun g y wr => ∃ (r : List Tok) (pre : List (ByteArray × Int)), g = r.length ∧ NmSt w3.heap.size l wr nb y pre ∧ PRd rb l wr r file v ∧ Chg [rb, nb] w3 wr ∧ Kp0 rb w3 wr ∧ pre.length + r.length ≤ r4.length ∧ rowR nameAt sComma r4 = (rowR nameAt sComma r).map (pre ++ ·))
      case atStart => exact ⟨r4, [], rfl, (NmSt.nil bn4).chg hk5.chg (by simp; omega), g5, hk5.chg.mono (by simp), Kp0.kept hk5, by simp, by cases rowR nameAt sComma r4 <;> simp⟩
      case round =>
        obtain ⟨r, pre, hg, hnm, hpr, hch, hkp, hlen, heq⟩ := hrel
        have HEQ := Lib.hid heq
        have HG := Lib.hid hg
        have hrl := hpr.1.1.length_le
        have hr4l := g5.1.1.length_le
        obtain ⟨vn, ix, q1, q2, q3, q4, q5⟩ := hnm
        obtain ⟨xa, xc, hv, hxc⟩ := q3.form
        rw [List.length_map] at hv hxc
        subst hv
        have HML := Lib.hid (show (ix.map fun k : Nat => [Dat.int (k : Int)]).length = ix.length by rw [List.length_map])
        have hpl : ix.length ≤ 8001 := by omega
        have HQ3 := Lib.hid q3
        have HQ5 := Lib.hid q5
        have HQ4 := Lib.hid q4
        have HLP := Lib.hid hlen
        have hsr : w3.heap.size ≤ wr.heap.size := hch.size
        obtain ⟨z1, -, l5⟩ := hpr.at1
        clear heq hg q3 q4 q5 hlen
        go_upto_region 8 with (at_builtin; refine wpList_append_row rfl _ _ _ rfl 3 i0 _ 8 Try.underlying138 hi0 hz0 hz1' hz2' rfl (by decide) w3.heap.size (.slice xa ix.length xc) (ix.map fun k : Nat => [Dat.int (k : Int)]) rfl wr HQ3.out (ext_alloc _ _) wr.heap.size rfl _ _ (heap_alloc_new _ _) [Dat.int (l.length - r.length : Nat)] ⟨rfl, ⟨rfl, by omega, by omega⟩, trivial⟩ (by rw [HML.out]; simp only [maxLen]; omega) (by rw [HML.out]; omega) (by simp; omega) ?_; intro g6 cap6 w6 hrow6 hgrow6 hat6 hlt6; rw [HML.out] at hrow6 ⊢)
        have HX6 := Lib.hid (ext_alloc wr (.cells #[.int .i64 (l.length - r.length : Nat)] 3))
        have hgp := (hpr.ext HX6.out).grown HQ3.out (by omega) hgrow6
        have hnb6 : (Value.slice xa ix.length xc).ownBlock ≠ some nb := fun e => by have := (HQ3.out.own_ge e).1; omega
        have bn6 := own_append (q1.ext HX6.out) hgrow6 hnb6
        have q6 : StrRow w3.heap.size w6 vn (pre.map Prod.fst) := (StrRow.ext q2 HX6.out).but (Chg.of_grown hgrow6 (S := (Value.slice xa ix.length xc).ownBlock.toList) (fun g h => .inl (by simp [h]))) (fun g hg hm => rows_apart q2 HQ3.out (by decide) hg (by simpa using hm))
        have P6 : Kp0 rb w3 w6 := (hkp.trans (Kp0.ext HX6.out)).trans (Kp0.chg (S := (Value.slice xa ix.length xc).ownBlock.toList) (Chg.of_grown hgrow6 (fun g h => .inl (by simp [h]))) (fun hm => by have := (HQ3.out.own_ge (show (Value.slice xa ix.length xc).ownBlock = some rb by simpa using hm)).1; omega))
        have C6 : Chg [rb, nb] w3 w6 := chg_append hch HQ3.out (Nat.le_refl _) HX6.out hgrow6
        have HROW6 := Lib.hid (show IxRow w3.heap.size w6 (.slice (some ⟨g6, 0, none⟩) (ix.length + 1) cap6) (ix ++ [l.length - r.length]) by unfold IxRow; rw [List.map_append]; exact hrow6)
        clear hrow6 hgrow6 hat6 hpr q1 q2 hnb6 z1 l5 hch
        have hs6 := C6.size
        obtain ⟨y0, yf0⟩ := bn6 0 _ rfl
        obtain ⟨na, nc, hvn, hnc, -⟩ := q6.strs
        rw [List.length_map] at hvn hnc
        subst hvn
        have Hml := Lib.hid (show ((pre.map Prod.fst).map fun s => [Dat.str s]).length = pre.length by rw [List.length_map, List.length_map])
        have HQ6 := Lib.hid q6
        have HBN := Lib.hid bn6
        have HGP := Lib.hid hgp
        have hpl2 : pre.length ≤ 8001 := by have := HQ4.out; omega
        rcases rd_ways (nameK r) with ⟨rr, hn⟩ | ⟨x, rr, hn⟩
        · have HNB := Lib.hid (fun w' (h : Cur rb l w' r) => (by have := HNM.out w' r h; rw [hn] at this; exact this : Calls Try.prog 73 #[.pointer (some ⟨rb, 0, none⟩)] w' fun e w'' => Kept rb w' w'' ∧ e = .panicked [wrongV (badAt l rr)] ∧ Cur rb l w'' r))
          have HBAD := Lib.hid (show rowR nameAt sComma r4 = .bad rr by rw [HEQ.out, rowN_bad (show nameAt r = .bad rr by unfold nameAt; rw [hn]; rfl)]; rfl)
          have HD := Lib.hid (fun (w7 : World) (hk : Kept rb w6.drew w7) => (IncPost.wrong (rb := rb) (l := l) (file := file) (B := B) (xb := xb) (mb := mb) (v := v) (out := out) (files := files) (dep := dep) (opn := opn) (res := incR rd files opn l file (ahead + out.length) cnt ks) (v1 := v) (ks := r) (incR_head (incHead_3 hq1 hq2 (incNames_2 HT.out hq5.out HBAD.out))) ((K4.chg.mono (T := [rb, nb]) (by simp)).trans (C6.trans (((Kept.of_ext (Ext.drew (Below.refl _ w6))).trans hk).chg.mono (by simp)))) (by simp; omega) (w' := w7)))
          have hgl := hgp.1.lt
          clear hn q6 bn6
          refine wp_region_any (by kernel_rfl) ?_
          change wpAny _ _ _ _ _ _ _ (World.drew _)
          refine wpAny_take (i := 1) (v := .pointer (some ⟨rb, 0, none⟩)) rfl (by kernel_rfl) (by kernel_rfl) (by kernel_rfl) (fun _ _ _ h => h) (Or.inl ⟨by rfl, fun w0 => ?_⟩) ?_
          · go_simp
          refine wpAny_ready (rs := [0, 2]) (by kernel_rfl) (by simp) ?_
          refine AllReady.cons rfl (fun K hK => ?_) (AllReady.cons rfl (fun K hK => ?_) AllReady.nil)
          · go_simp
            refine hK _ _ ?_
            clear hK K
            refine wpAny_ready (rs := [2]) (by kernel_rfl) (by simp) ?_
            refine AllReady.cons rfl (fun K hK => ?_) AllReady.nil
            go_simp
            refine (HNB.out _ (HGP.out.1.ext (Ext.drew (Below.refl _ _)))).mono ?_
            rintro e w7 ⟨hk7, rfl, hc7⟩
            exact ⟨rfl, HD.out w7 hk7 ((HGP.out.ext (Ext.drew (Below.refl _ _))).kept hk7 hc7)⟩
          · go_simp
            refine (HNB.out _ (HGP.out.1.ext (Ext.drew (Below.refl _ _)))).mono ?_
            rintro e w7 ⟨hk7, rfl, hc7⟩
            exact ⟨rfl, HD.out w7 hk7 ((HGP.out.ext (Ext.drew (Below.refl _ _))).kept hk7 hc7)⟩
        · have hxs := nameK_size hgp.1.toks hn
          have hr0 : 0 < r.length := by have := nameK_lt hn; omega
          have hrsuf : r <:+ l := hgp.1.1
          have HN := Lib.hid (fun w' (h : Cur rb l w' r) => (by have := HNM.out w' r h; rw [hn] at this; exact this : Calls Try.prog 73 #[.pointer (some ⟨rb, 0, none⟩)] w' fun e w'' => Kept rb w' w'' ∧ e = .returned (.string x) ∧ Cur rb l w'' rr))
          have hgl := hgp.1.lt
          clear q6 bn6 hgp
          go_cut [] from 35 to 52 (fun wx => NmSt w3.heap.size l wx nb (.slice (some ⟨g6, 0, none⟩) (ix.length + 1) cap6) (pre ++ [(x, (peekT r).at')]) ∧ PRd rb l wx rr file v ∧ Chg [rb, nb] w3 wx ∧ Kp0 rb w6 wx)
          case first =>
            go_region_law ((first
              | (go_simp; go_at_call 73; refine (HN.out _ (HGP.out.1.ext (Ext.drew (Below.refl _ _)))).mono ?_; rintro e w7 ⟨hk7, rfl, hc7⟩; (have hk7' : Kept rb w6 w7 := (Kept.of_ext (Ext.drew (Below.refl _ w6))).trans hk7); (have d5 := hk7'.chg.cell y0 (by simp; omega)); (have d6 := hk7'.chg.frozen y0 (by simp; omega) yf0); (have d7 := (ext_alloc w7 (.cells #[.string x] 9)).cell d5); (have d8 := cell_lt d5); (have hs7 := hk7'.chg.size))
              | (refine step_append_row rfl (.tmp 43) (.tmp 46) _ rfl 9 j0 _ 16 Try.underlying23 hj0 jz0 jz1' jz2' rfl (by decide) w3.heap.size (.slice na pre.length nc) ((pre.map Prod.fst).map fun s => [Dat.str s]) (by rfl) w7 (GRow.chg HQ6.out hk7'.chg (by simp; omega)) (ext_alloc _ _) w7.heap.size (by rfl) _ _ (heap_alloc_new _ _) [Dat.str x] ⟨rfl, ⟨rfl, hxs⟩, trivial⟩ (by rw [Hml.out]; simp only [maxLen]; omega) (by rw [Hml.out]; omega) (by simp; omega) ?_; intro g cap w8 hrow8 hgrow8 hat8 hlt8; (have hfar : (some (⟨nb, 0, none⟩ : Addr).block) ≠ (Value.slice na pre.length nc).ownBlock := fun e => by have := (StrRow.own_ge HQ6.out e.symm).1; simp only at this; omega); (have e5 := (hgrow8.cell_far ⟨nb, 0, none⟩ (cell_lt d7) hfar).trans d7); (have e6 := (hgrow8.frozen_far ⟨nb, 0, none⟩ (cell_lt d7) hfar).trans ((ext_alloc w7 (.cells #[.string x] 9)).frozen d5 d6)))))
            all_goals
              go_wp2_with fail
              go_meet
              have hrow9 := hrow8
              rw [Hml.out] at hrow9
              exact nm_put (by omega) (by omega) (by omega) HBN.out hk7' HQ6.out HROW6.out HQ4.out HQ5.out hrsuf hr0 hrow9 hgrow8 hc7 HGP.out C6
          case rest =>
            obtain ⟨hnm2, hpr2, hch2, hkp2⟩ := hcut
            have hna := Lib.hid (show nameAt r = .ok (x, (peekT r).at') rr by unfold nameAt; rw [hn]; rfl)
            have hrrl := nameK_lt hn
            have HNM2 := Lib.hid hnm2
            have HPR2 := Lib.hid hpr2
            clear hnm2 HN hn hpr2
            cases ht2 : takeS sComma rr with
            | none =>
              have HT2 := Lib.hid ht2
              have HOK := Lib.hid (show rowR nameAt sComma r4 = .ok (pre ++ [(x, (peekT r).at')]) rr by rw [HEQ.out, rowN_last hna.out ht2]; rfl)
              clear ht2
              go_wp2_with (first
                | (go_at_call 64; refine (HTK.out sComma _ _ HPR2.out.1).mono ?_; rintro e w9 ⟨hk9, hm⟩; rw [HT2.out] at hm; (obtain ⟨rfl, hc9⟩ := hm))
                | (go_at_call 72; refine (HM.out sRbra _ _ hc9).mono ?_; rintro e w10 ⟨hk10, hm⟩; (rcases rd_ways (mustS sRbra rr) with ⟨r7, hq7⟩ | ⟨u7, r7, hq7⟩); (focus (rw [hq7] at hm; (obtain ⟨rfl, hc10⟩ := hm); exact ⟨rfl, IncPost.wrong (incR_head (incHead_3 hq1 hq2 (incNames_3 HT.out hq5.out HOK.out hq7))) ((K4.chg.mono (T := [rb, nb]) (by simp)).trans (hch2.trans ((hk9.trans hk10).chg.mono (by simp)))) (by simp; omega) ((HPR2.out.kept hk9 hc9).kept hk10 hc10)⟩)); rw [hq7] at hm; (obtain ⟨rfl, hc10⟩ := hm)))
              go_meet
              exact ⟨some (pre ++ [(x, (peekT r).at')]), r7, incNames_ok HT.out hq5.out HOK.out hq7, HNM2.out.chg (hk9.trans hk10).chg (by simp; omega), (HPR2.out.kept hk9 hc9).kept hk10 hc10, hch2.trans ((hk9.trans hk10).chg.mono (by simp)), (P6.trans hkp2).trans (Kp0.kept (hk9.trans hk10))⟩
            | some r6 =>
              have HT2 := Lib.hid ht2
              have hr6 := takeS_lt ht2
              have HEQ2 := Lib.hid (show rowR nameAt sComma r4 = (rowR nameAt sComma r6).map ((pre ++ [(x, (peekT r).at')]) ++ ·) by rw [HEQ.out, rowN_more hna.out ht2]; cases rowR nameAt sComma r6 <;> simp)
              clear ht2
              go_wp2_with (go_at_call 64; refine (HTK.out sComma _ _ HPR2.out.1).mono ?_; rintro e w9 ⟨hk9, hm⟩; rw [HT2.out] at hm; (obtain ⟨rfl, hc9⟩ := hm))
              go_roundg r6.length
              case measure => have := HG.out; go_light; omega
              case rel => exact ⟨r6, pre ++ [(x, (peekT r).at')], rfl, HNM2.out.chg hk9.chg (by simp; omega), HPR2.out.kept hk9 hc9, hch2.trans (hk9.chg.mono (by simp)), (P6.trans hkp2).trans (Kp0.kept hk9), by have := HLP.out; simp; omega, HEQ2.out⟩
  case rest =>
    obtain ⟨ns, r3, hq3, hnm, g5, hch, hkp⟩ := hcut
    have hl5 := (HLD.out.chg K4.chg (by simp; omega)).chg hch (by simp; omega)
    have bf5 := bf4.chg hch (by simp; omega)
    have C5 : Chg [rb, nb] w wc := (K4.chg.mono (by simp)).trans hch
    have P5 : Kp0 rb w wc := (Kp0.kept K4).trans hkp
    have hS5 : ∀ b ∈ [rb, nb], b = rb ∨ b = xb ∨ b = mb ∨ w.heap.size ≤ b := by simp; omega
    clear g4 bf4 bn4 K4 hch
    have hs5 := C5.size
    obtain ⟨base, hbase⟩ : ∃ base, base = w3.heap.size := ⟨_, rfl⟩
    rw [← hbase] at hnm
    have hb1 : nb < base ∧ rb < base ∧ w.heap.size ≤ base := ⟨by omega, by omega, by omega⟩
    obtain ⟨hb1, hb2, hb3⟩ := hb1
    go_upto_region 12 with (go_at_call 72; refine (HM.out sRpar _ _ g5.1).mono ?_; rintro e w6 ⟨hk6, hm⟩; (rcases rd_ways (mustS sRpar r3) with ⟨r4, hq4⟩ | ⟨u4, r4, hq4⟩); (focus (rw [hq4] at hm; (obtain ⟨rfl, hc6⟩ := hm); exact ⟨rfl, IncPost.wrong (incR_head (incHead_4 hq1 hq2 hq3 hq4)) (C5.trans (hk6.chg.mono (by simp))) hS5 (g5.kept hk6 hc6)⟩)); rw [hq4] at hm; (obtain ⟨rfl, hc6⟩ := hm))
    have g6 := g5.kept hk6 hc6
    go_upto_region 13 with (go_at_call 72; refine (HM.out sDot _ _ g6.1).mono ?_; rintro e w7 ⟨hk7, hm⟩; (rcases rd_ways (mustS sDot r4) with ⟨r5, hq5⟩ | ⟨u5, r5, hq5⟩); (focus (rw [hq5] at hm; (obtain ⟨rfl, hc7⟩ := hm); exact ⟨rfl, IncPost.wrong (incR_head (incHead_5 hq1 hq2 hq3 hq4 hq5)) (C5.trans ((hk6.trans hk7).chg.mono (by simp))) hS5 (g6.kept hk7 hc7)⟩)); rw [hq5] at hm; (obtain ⟨rfl, hc7⟩ := hm))
    have g7 := g6.kept hk7 hc7
    have hH := Lib.hid (incHead_ok hq1 hq2 hq3 hq4 hq5)
    have HIN := Lib.hid hq3
    have C7 : Chg [rb, nb] w w7 := C5.trans ((hk6.trans hk7).chg.mono (by simp))
    have nm7 := hnm.chg (hk6.trans hk7).chg (by simp; omega)
    have bf7 := bf5.chg (hk6.trans hk7).chg (by simp; omega)
    have hl7 := hl5.chg (hk6.trans hk7).chg (by simp; omega)
    have PK := Kp0.kept (hk6.trans hk7)
    clear hq1 hq2 hq3 hq4 hq5 g5 g6 hc6 hc7 hnm bf5 hl5 C5 hk6 hk7 hk1 hk2 hk3
    have HL7 := Lib.hid hl7
    obtain ⟨fa, fc, n, ho, hfc, hfiles, hom, hnd, hcnt, hmx, hml, m, hmlc⟩ := hl7
    obtain ⟨x2, xf2⟩ := ho 2 _ rfl
    have lx := ho.lt
    go_upto_region 14 with fail
    obtain ⟨V7, hV7⟩ : ∃ V7, V7 = w7.setCell ⟨xb, 2, none⟩ (.int .i64 ((cnt : Int) + 1)) := ⟨_, rfl⟩
    have c7 : Chg [xb] w7 V7 := by rw [hV7]; exact (Chg.refl [xb] w7).setCell _ (.inl (by simp))
    have ho8 : Own V7 xb [.slice fa files.length fc, .map (some mb), .int .i64 ((cnt + 1 : Nat) : Int)] := by
      rw [hV7]; exact ho.set (i := 2) (by simp) _
    have P7 : Kp0 rb w w7 := P5.trans PK
    have tk7 := HTA.out.chg C7 P7 (by simp; omega)
    have g8 : PRd rb l V7 r5 file v := g7.low tk7 c7 (by simp) hxr
    have tk8 := tk7.chg c7 (Kp0.chg c7 (by simp; omega)) (by simp)
    have nm8 := nm7.chg c7 (by simp; omega)
    have bf8 := bf7.chg c7 (by simp; omega)
    have hf8 : IsFiles (fun b => b < mb) V7 fa files := Dat.Rows.chg hfiles c7 fun b hb => by simp; omega
    have hom8 := hom.chg c7 (by simp; omega)
    have hml8 := c7.cell hmlc (by simp; omega)
    have C8 : Chg [rb, nb, xb] w V7 := (C7.mono (by simp)).trans (c7.mono (by simp))
    have hS8 : ∀ b ∈ [rb, nb, xb], b = rb ∨ b = xb ∨ b = mb ∨ w.heap.size ≤ b := by simp; omega
    have P8 : Kp0 rb w V7 := P7.trans (Kp0.chg c7 (by simp; omega))
    have hs8 := C8.size
    rw [← hV7]
    clear hV7 c7 x2 xf2 ho lx hfiles hom hmlc g7 tk7 nm7 bf7 HL7 P7 C7 PK
    have HIX := Lib.hid (idxFile_any (by omega) (c := fc) hf8 (bf8 0 _ rfl).1)
    obtain ⟨x0, -⟩ := ho8 0 _ rfl
    have lx8 := ho8.lt
    by_cases hlong : 200 < cnt + 1
    case pos =>
      have hlong' : (200 : Int) < (cnt : Int) + 1 := by omega
      have HLG := Lib.hid hlong
      generalize firstI (fun x => decide (x.1 = fn)) files = fi at HIX
      clear hlong
      go_wp2_with (first | (go_at_call 78; refine (HIX.out).mono ?_; rintro e w9 ⟨rfl, hx9⟩; have ho9 := ho8.ext hx9; (obtain ⟨x0, -⟩ := ho9 0 _ rfl); (obtain ⟨x1, -⟩ := ho9 1 _ rfl); (obtain ⟨x2, -⟩ := ho9 2 _ rfl); have lx9 := ho9.lt) | (go_at_call 76; refine (HST.out _ _ _ (l.length - r1.length) 3 (by have := hr1.length_le; omega) (g8.ext hx9)).mono ?_; rintro e w10 ⟨⟨older, rfl, hol⟩, hx10⟩))
      exact ⟨rfl, IncPost.fault (incR_long hH.out HLG.out) (C8.trans (Chg.of_ext (hx9.trans hx10))) hS8 ⟨older, rfl, hol⟩ (by rw [HAT.out])⟩
    case neg =>
      have hlong' : ¬ (200 : Int) < (cnt : Int) + 1 := by omega
      have HLG := Lib.hid hlong
      rcases findF_first files fn with ⟨hf, hfi⟩ | ⟨i, hf, hil, hfi⟩
      · have HF := Lib.hid hf
        rw [hfi] at HIX
        clear hf hfi hlong
        go_wp2_with (first | (go_at_call 78; refine (HIX.out).mono ?_; rintro e w9 ⟨rfl, hx9⟩; have ho9 := ho8.ext hx9; (obtain ⟨x0, -⟩ := ho9 0 _ rfl); (obtain ⟨x1, -⟩ := ho9 1 _ rfl); (obtain ⟨x2, -⟩ := ho9 2 _ rfl); have lx9 := ho9.lt) | (go_at_call 76; refine (HST.out _ _ _ (l.length - r1.length) 244 (by have := hr1.length_le; omega) (g8.ext hx9)).mono ?_; rintro e w10 ⟨⟨older, rfl, hol⟩, hx10⟩))
        exact ⟨rfl, IncPost.fault (incR_miss hH.out HLG.out HF.out) (C8.trans (Chg.of_ext (hx9.trans hx10))) hS8 ⟨older, rfl, hol⟩ (by rw [HAT.out])⟩
      · have HF := Lib.hid hf
        rw [hfi] at HIX
        have hi0 : ¬ (i : Int) < 0 := by omega
        have HLK := Lib.hid (fun w9 (hx9 : Ext V7 w9) => omap_look (hom8.chg (Chg.of_ext (S := []) hx9) (by simp)) (k := i) (by omega))
        cases hopi : opn i with
        | true =>
          have HO := Lib.hid hopi
          rw [hopi] at HLK
          clear hf hfi hlong hopi
          go_wp2_with (first | (go_at_call 78; refine (HIX.out).mono ?_; rintro e w9 ⟨rfl, hx9⟩; have ho9 := ho8.ext hx9; (obtain ⟨x0, -⟩ := ho9 0 _ rfl); (obtain ⟨x1, -⟩ := ho9 1 _ rfl); (obtain ⟨x2, -⟩ := ho9 2 _ rfl); have lx9 := ho9.lt; have hlk := HLK.out w9 hx9) | (go_at_call 76; refine (HST.out _ _ _ (l.length - r1.length) 245 (by have := hr1.length_le; omega) (g8.ext hx9)).mono ?_; rintro e w10 ⟨⟨older, rfl, hol⟩, hx10⟩))
          exact ⟨rfl, IncPost.fault (incR_cycle hH.out HLG.out HF.out HO.out) (C8.trans (Chg.of_ext (hx9.trans hx10))) hS8 ⟨older, rfl, hol⟩ (by rw [HAT.out])⟩
        | false =>
          have HO := Lib.hid hopi
          rw [hopi] at HLK
          clear hf hfi hlong hopi
          go_upto_region 21 with (go_at_call 78; refine (HIX.out).mono ?_; rintro e w9 ⟨rfl, hx9⟩; have ho9 := ho8.ext hx9; (obtain ⟨x0, -⟩ := ho9 0 _ rfl); (obtain ⟨x1, -⟩ := ho9 1 _ rfl); (obtain ⟨x2, -⟩ := ho9 2 _ rfl); have lx9 := ho9.lt; have hlk := HLK.out w9 hx9)
          have hom9 := hom8.chg (Chg.of_ext (S := []) hx9) (by simp)
          obtain ⟨D, hD, hown, hat⟩ := hom9
          have HAT2 := Lib.hid hat
          have HKY := Lib.hid (key_int (k := i) (by omega))
          have hi1 : (i : Int) < files.length := by omega
          obtain ⟨bf, of, hfa, hbf, p1, p2, -, -⟩ := hf8.look hil
          subst hfa
          have HTX := Lib.hid (show textOf files i = files[i].2 by unfold textOf; rw [List.getElem?_eq_getElem hil]; rfl)
          have hrow0 := HOUT.out
          unfold EntRow at hrow0
          obtain ⟨va, vc, hv, hvc⟩ := hrow0.form
          rw [List.length_map] at hv hvc
          subst hv
          have HROW0 := Lib.hid hrow0
          clear hat hlk hrow0
          go_upto_region 22 with (at_mapUpdate; refine wpList_mapUpdate_own _ rfl _ _ _ 79 rfl 3 4 intKeyed Try.underlying79 (plainElem Try.prog 4) mb n D rfl hown (by unfold maxLen; omega) _ _ (.int .i64 i) rfl rfl HKY.out (.lit (.bool true)) [] (plainElem_bool Try.underlying4 true) ?_; intro w10 hown10 hgrow10)
          have c10 : Chg [mb] w9 w10 := Chg.of_grown hgrow10 (fun g hg => .inl (by injection hg with hg; simp [hg]))
          have om10 := omap_put hD HAT2.out hown10
          have g9 := g8.ext hx9
          have tk9 := tk8.chg (Chg.of_ext (S := []) hx9) (Kp0.ext hx9) (by simp)
          have g10 := g9.low tk9 c10 (by simp; omega) hxr
          have tk10 := tk9.chg c10 (Kp0.chg c10 (by simp; omega)) (by simp; omega)
          have nm10 := (nm8.ext hx9).chg c10 (by simp; omega)
          obtain ⟨vn, ix, o1, o2, o3, o4, o5⟩ := nm10
          have hnb10 := o1.lt
          obtain ⟨na, nc, hvn, hnc, hstr⟩ := o2.strs
          rw [List.length_map] at hvn hnc
          subst hvn
          have st10 : IsStrs (fun b => base ≤ b ∧ b < w10.heap.size) w10 na ((ns.getD []).map Prod.fst) := Dat.Rows.mono hstr fun b h1 h2 => ⟨h1, h2⟩
          obtain ⟨ia, ic, hva, hic, hixr⟩ := GRow.dat (by decide) o3
          rw [List.length_map] at hva hic
          subst hva
          have ix10 : Dat.Rows (fun b => base ≤ b ∧ b < w10.heap.size) w10 ia (ix.map fun k : Nat => [Dat.int (k : Int)]) := Dat.Rows.mono hixr fun b h1 h2 => ⟨h1, h2⟩
          have HIX4 := Lib.hid o4
          have HIX5 := Lib.hid o5
          have hnsz := HIX4.out
          clear o2 o3 hstr hixr o4 o5
          have f10 : IsFiles (fun b => b < mb) w10 (some ⟨bf, of, none⟩) files := Dat.Rows.chg (hf8.ext hx9) c10 fun b hb => by simp; omega
          have ho10 := ho9.chg c10 (by simp; omega)
          have ml10 := c10.cell (hx9.cell hml8) (by simp; omega)
          have C10 : Chg [rb, nb, xb, mb] w w10 := ((C8.mono (by simp)).trans (Chg.of_ext (S := [rb, nb, xb, mb]) hx9)).trans (c10.mono (by simp))
          have P10 : Kp0 rb w w10 := (P8.trans (Kp0.ext hx9)).trans (Kp0.chg c10 (by simp; omega))
          have ld10 : LdSt xb mb w10 files (cnt + 1) (dep + 1) (fun k => if k = i then true else opn k) := ⟨_, fc, n + 1, ho10, hfc, f10, om10, by omega, by omega, hmx, hml, m, ml10⟩
          have hs10 := C10.size
          replace p2 := c10.cell (hx9.cell p2) (by simp; omega)
          obtain ⟨z0, -⟩ := ho10 0 _ rfl
          obtain ⟨-, -, q3, -⟩ := id g10
          have l10 := g10.1.lt
          have lx10 := ho10.lt
          have lp10 := cell_lt p2
          have HR1 := HRD.out i hil w10.drew (ahead + out.length) hah HO.out (ld10.ext (Ext.drew (Below.refl _ _)))
          rw [HTX.out, Int.natCast_add] at HR1
          have HR2 := Lib.hid HR1
          have hin := Lib.hid (incR_read (l := l) (file := file) (rd := rd) (n := ahead + out.length) hH.out HLG.out HF.out HO.out)
          have hS10 : ∀ b ∈ [rb, nb, xb, mb], b = rb ∨ b = xb ∨ b = mb ∨ w.heap.size ≤ b := by simp; omega
          clear hown hown10 hgrow10 c10 om10 g9 tk9 ho9 x0 x1 x2 g8 tk8 nm8 hf8 hml8 C8 P8 HR1 ho8 ho10 f10 ml10 ld10 bf8 hom8 p1
          unfold RdFPost at HR2
          cases hrd : rd i (ahead + out.length) (cnt + 1) with
          | flt tf =>
            rw [hrd] at HR2 hin
            clear hrd
            go_still_tail 17, (by kernel_rfl)
            change wpList _ _ _ _ _ w10.drew
            go_wp2_with (go_at_call 30; refine (HR2.out).mono ?_; rintro e w11 ⟨hx11, older, rfl, hol⟩)
            exact ⟨rfl, IncPost.fault (S := [rb, nb, xb, mb]) hin.out (C10.trans ((Chg.of_ext (Ext.drew (Below.refl _ _))).trans (hx11.mono (by simp)))) hS10 ⟨older, rfl, hol⟩ rfl⟩
          | ok xr =>
            rw [hrd] at HR2 hin
            have hxl := HLEN.out _ _ _ _ hah hrd
            clear hrd
            go_still_tail 17, (by kernel_rfl)
            change wpList _ _ _ _ _ w10.drew
            go_upto_region 23 with (go_at_call 30; refine (HR2.out).mono ?_; rintro e w11 ⟨hx11, v11, rfl, hrow11, hld11⟩)
            obtain ⟨l', cnt2⟩ := xr
            simp only at hrow11 hld11 hxl hin
            have hlex : Ext w10 w10.drew := Ext.drew (Below.refl _ _)
            have g11 := (g10.ext hlex).low (tk10.chg (Chg.of_ext (S := []) hlex) (Kp0.ext hlex) (by simp)) hx11 (by simp; omega) hxr
            have o11 := (o1.ext hlex).chg hx11 (by simp; omega)
            have st11 := Dat.Rows.chg (Dat.Rows.ext st10 hlex) hx11 (fun b hb => by have h1 := hb.1; simp; omega)
            have ix11 := Dat.Rows.chg (Dat.Rows.ext ix10 hlex) hx11 (fun b hb => by have h1 := hb.1; simp; omega)
            have tk11 := (tk10.chg (Chg.of_ext (S := []) hlex) (Kp0.ext hlex) (by simp)).chg hx11 (Kp0.chg hx11 (by simp; omega)) (by simp; omega)
            have C11 : Chg [rb, nb, xb, mb] w w11 := C10.trans ((Chg.of_ext hlex).trans (hx11.mono (by simp)))
            have P11 : Kp0 rb w w11 := (P10.trans (Kp0.ext hlex)).trans (Kp0.chg hx11 (by simp; omega))
            obtain ⟨fa2, fc2, n2, ho11, hfc2, hf11, hom11, hnd2, hcnt2, -, -, m2, hml11⟩ := hld11
            obtain ⟨D2, hD2, hown2, hat2⟩ := hom11
            have HAT3 := Lib.hid hat2
            have hs11 := C11.size
            obtain ⟨w1', -⟩ := ho11 1 _ rfl
            have lx11 := ho11.lt
            clear hat2 g10 tk10 o1 st10 ix10 C10 P10 q3 z0 p2 lp10 lx10 l10
            go_upto_region 24 with (at_mapUpdate; refine wpList_mapUpdate_own _ rfl _ _ _ 79 rfl 3 4 intKeyed Try.underlying79 (plainElem Try.prog 4) mb n2 D2 rfl hown2 (by unfold maxLen; omega) _ _ (.int .i64 i) rfl rfl HKY.out (.lit (.bool false)) [] (plainElem_bool Try.underlying4 false) ?_; intro w12 hown12 hgrow12)
            have c12 : Chg [mb] w11 w12 := Chg.of_grown hgrow12 (fun g hg => .inl (by injection hg with hg; simp [hg]))
            have om12 : OMap w12 mb (n2 + 1) opn := by
              have h1 := omap_put hD2 HAT3.out hown12
              have h2 : (fun k => if k = i then false else if k = i then true else opn k) = opn := by
                funext k
                by_cases hk : k = i
                · subst hk; rw [if_pos rfl]; exact HO.out.symm
                · rw [if_neg hk, if_neg hk]
              rw [h2] at h1
              exact h1
            have ld12 : LdSt xb mb w12 files cnt2 dep opn := ⟨fa2, fc2, n2 + 1, ho11.chg c12 (by simp; omega), hfc2, Dat.Rows.chg hf11 c12 (fun b hb => by simp; omega), om12, by omega, hcnt2, hmx, hml, m2, c12.cell hml11 (by simp; omega)⟩
            have g12 := g11.low tk11 c12 (by simp; omega) hxr
            have o12 := o11.chg c12 (by simp; omega)
            have st12 := Dat.Rows.chg st11 c12 (fun b hb => by have h1 := hb.1; simp; omega)
            have ix12 := Dat.Rows.chg ix11 c12 (fun b hb => by have h1 := hb.1; simp; omega)
            have C12 : Chg [rb, nb, xb, mb] w w12 := C11.trans (c12.mono (by simp))
            have P12 : Kp0 rb w w12 := P11.trans (Kp0.chg c12 (by simp; omega))
            have hrow12 : EntRow w10.heap.size w12 v11 l' := GRow.chg hrow11 c12 (by simp; omega)
            have hrowv : EntRow B w12 (.slice va out.length vc) out := GRow.chg HROW0.out (Chg.drop (Below.refl _ _) C12 (T := [rb, xb, mb]) (fun i hi => by
              simp at hi ⊢
              rcases hi with h | h | h | h
              · exact .inl (.inl h)
              · exact .inr (by omega)
              · exact .inl (.inr (.inl h))
              · exact .inl (.inr (.inr h)))) (by simp; omega)
            have hvold : ∀ g, (Value.slice va out.length vc).ownBlock = some g → g < w.heap.size := fun g hg => (HROW0.out.own_ge hg).2
            have hs12 := c12.size
            clear hown2 hown12 hgrow12 c12 om12 ho11 hf11 hml11 g11 tk11 o11 st11 ix11 C11 P11 hrow11 w1' HR2 HRD
            obtain ⟨p0, pf0⟩ := o12 0 _ rfl
            obtain ⟨k0, hk0, kz0, kz1', kz2'⟩ := info_parts infoEnt
            have hol := o12.lt
            cases hns : ns with
            | none =>
              have HNS := Lib.hid hns
              rw [hns] at hin p0 o12 st12 hnsz hnc
              simp only [Option.getD_none, List.length_nil] at p0 hnsz hnc
              clear hns
              obtain ⟨a1, c1, hv1, hc1, he1⟩ := hrow12.ents
              subst hv1
              have HE1 := Lib.hid he1
              have HML := Lib.hid (show (l'.map Ent.dat).length = l'.length by rw [List.length_map])
              obtain ⟨-, -, q3, qf3⟩ := id g12
              have hl12 := g12.1.lt
              go_upto_region 32 with fail
              go_wp2_with (at_builtin; rw [← HML.out]; refine wpList_append_rows (m := 7) (P := fun b => B ≤ b) (B := B) (v := .slice va out.length vc) (l := out.map Ent.dat) Try.underlying38 hk0 kz0 kz1' kz2' rfl (by decide) (by decide) rfl _ _ rfl rfl (PRow.of_grow hrowv) rfl HE1.out (fun e he => (by obtain ⟨x, -, rfl⟩ := List.mem_map.1 he; exact x.dat_length)) (fun b hb _ => ⟨by omega, fun e => by have := hvold b e; omega⟩) (by rw [List.length_map, HML.out]; omega) (by omega) ?_; intro v13 w13 hrow13 hfr13; (have y3 := hfr13.cell q3 (fun e => by have := (GRow.own_ge hrowv e).1; simp only at this; omega)); (have yf3 := hfr13.chg.frozen q3 (fun hm => by have := (GRow.own_ge hrowv (show (Value.slice va out.length vc).ownBlock = some rb by simpa using hm)).1; omega) qf3); (have yl := cell_lt y3); (obtain ⟨a13, c13, hv13, -⟩ := hrow13.form); subst hv13)
              go_returns
              simp only [List.length_append, List.length_map] at hrow13 hfr13
              exact inc_done (l' := l') (cnt2 := cnt2) hrB hxr hmx hin.out P12 C12 hS10 g12 hrowv hrow13 hfr13 ld12
            | some L =>
              have HNS := Lib.hid hns
              have HLP := Lib.hid (incNames_some (hns ▸ HIN.out))
              have hLb : L.length ≤ 8001 := by have := incNames_count (hns ▸ HIN.out); omega
              rw [hns] at hin p0 o12 st12 hnsz hnc HIX4 HIX5
              simp only [Option.getD_some] at p0 o12 st12 hnsz hnc HIX4 HIX5
              have hL0 := HLP.out
              clear hns
              obtain ⟨a1, c1, hv1, hc1, he1⟩ := hrow12.ents
              subst hv1
              have HE1 := Lib.hid he1
              have hL1 : (0 : Int) < L.length := by omega
              clear pf0
              go_upto_region 25 with fail
              go_wp2_with fail
              go_loopw [136] (fun y wr => ∃ k : Nat, k ≤ L.length ∧ y = .int .i64 k ∧ Ext w12 wr ∧ (L.take k).all (fun p => l'.any fun x => decide (x.name = p.1)) = true) (fun y _ => L.length - (intOf y).toNat)
              case atStart => exact ⟨0, Nat.zero_le _, rfl, Below.refl _ _, rfl⟩
              case round =>
                obtain ⟨k, hk, rfl, hxr2, hall⟩ := hrel
                have HALL := Lib.hid hall
                clear hall
                by_cases hkl : k < L.length
                · have hk1 : (k : Int) < L.length := by omega
                  obtain ⟨sb, so, rfl, -, s0, hssz⟩ := (IsStrs.ext st12 hxr2).look (i := k) (by rw [List.length_map]; exact hkl)
                  rw [List.getElem_map] at s0
                  have HST2 := Lib.hid (all_step (p := fun p : ByteArray × Int => l'.any fun x => decide (x.name = p.1)) hkl)
                  have HCF := Lib.hid (hasEnt_any (l := l') (by omega) (c := c1) (IsEnts.ext HE1.out (hxr2.trans (ext_alloc wr (.cells #[.string L[k].1] 9)))) (sb := wr.heap.size) (nm := L[k].1) (own1 wr (.string L[k].1) 9 0 _ rfl).1)
                  cases hpk : l'.any fun x => decide (x.name = L[k].1) with
                  | true =>
                    rw [hpk] at HCF HST2
                    clear hpk
                    go_wp2_with (go_at_call 80; refine (HCF.out).mono ?_; rintro e w13 ⟨rfl, hx13⟩)
                    go_roundw
                    case rel => exact ⟨k + 1, by omega, by go_num, (hxr2.trans (ext_alloc _ _)).trans hx13, by rw [HST2.out, HALL.out]; rfl⟩
                    case measure => simp [intOf]; omega
                  | false =>
                    rw [hpk] at HCF
                    have HMISS := Lib.hid (chosen_miss (file := file) hkl HALL.out hpk)
                    have hki : k < ix.length := by have := HIX4.out; omega
                    obtain ⟨ib, io, hia, -⟩ := Dat.Rows.addr ix12 (by rw [List.length_map]; omega)
                    subst hia
                    obtain ⟨vs, r1', r2'⟩ := Dat.Rows.at (m := 1) (Dat.Rows.ext ix12 hxr2) (fun e he => by obtain ⟨x, -, rfl⟩ := List.mem_map.1 he; rfl) (i := k) (by rw [List.length_map]; exact hki)
                    rw [List.getElem_map] at r2'
                    have hvl := r2'.length
                    obtain ⟨vi, rfl⟩ : ∃ vi, vs = [vi] := by match vs, hvl with | [vi], _ => exact ⟨vi, rfl⟩
                    obtain ⟨⟨rfl, -⟩, -⟩ := r2'
                    have i0 := r1' 0 _ rfl
                    simp only [Nat.mul_one, Nat.add_zero] at i0
                    obtain ⟨hixl, hixa⟩ := HIX5.out k hki hkl
                    have HIA := Lib.hid hixa
                    have hki2 : (k : Int) < ix.length := by omega
                    generalize hik : ix[k] = ik at *
                    clear hpk r1' hixa ix12
                    go_wp2_with (first
                      | (go_at_call 80; refine (HCF.out).mono ?_; rintro e w13 ⟨rfl, hx13⟩; have i1 := ((ext_alloc _ _).trans hx13).cell i0)
                      | (go_at_call 76; refine (HST.out _ _ _ ik 244 hixl (g12.ext ((hxr2.trans (ext_alloc _ _)).trans hx13))).mono ?_; rintro e w14 ⟨⟨older, rfl, hol2⟩, hx14⟩))
                    exact ⟨rfl, IncPost.fault (S := [rb, nb, xb, mb]) (hin.out.trans (by simp only [Out.bind_ok, HMISS.out, Out.bind_flt]; rfl)) (C12.trans (Chg.of_ext (((hxr2.trans (ext_alloc _ _)).trans hx13).trans hx14))) hS10 ⟨older, rfl, hol2⟩ (by rw [HIA.out])⟩
                · have hk1 : ¬ (k : Int) < L.length := by omega
                  have hke : k = L.length := by omega
                  have HCH := Lib.hid (chosen_all (file := file) (l := l') (L := L) (by have := HALL.out; rw [hke, List.take_length] at this; exact this))
                  have hsr2 := hxr2.size
                  have hv11 : ∀ g, (Value.slice a1 l'.length c1).ownBlock = some g → w10.heap.size ≤ g ∧ g < w12.heap.size := fun g hg => GRow.own_ge hrow12 hg
                  have HDL := Lib.hid (delete_any (l := l') (by omega) (GRow.ext hrow12 hxr2) (nc := nc) (na := na) (ns := L.map Prod.fst) (by rw [List.length_map]; exact hxr2.cell p0) (IsStrs.ext st12 hxr2) (by rw [List.length_map]; omega) (by omega) (fun b hb e => by have := (hv11 b e).1; have h2 : b < w10.heap.size := hb.2; omega))
                  have o13 := o12.ext hxr2
                  obtain ⟨p1, -⟩ := o13 0 _ rfl
                  have hrowP : PRow 7 84 B (fun b => B ≤ b ∧ b < w.heap.size) wr (.slice va out.length vc) (out.map Ent.dat) := by
                    have h0 : PRow 7 84 B (fun b => B ≤ b ∧ b < w.heap.size) w (.slice va out.length vc) (out.map Ent.dat) := (PRow.of_grow HROW0.out).mono fun b h1 h2 => ⟨h1, h2⟩
                    refine (h0.chg (Chg.drop (Below.refl _ _) C12 (T := [rb, xb, mb]) (fun i hi => by
                      simp at hi ⊢
                      rcases hi with h | h | h | h
                      · exact .inl (.inl h)
                      · exact .inr (by omega)
                      · exact .inl (.inr (.inl h))
                      · exact .inl (.inr (.inr h)))) fun i hi => ?_).ext hxr2
                    have hiB : i < B := by simp at hi; omega
                    exact ⟨fun e => by have := (GRow.own_ge HROW0.out e).1; omega, fun h => by omega⟩
                  have g13 := g12.ext hxr2
                  have ld13 := ld12.ext hxr2
                  have C13 := C12.trans (Chg.of_ext (S := [rb, nb, xb, mb]) hxr2)
                  have P13 := P12.trans (Kp0.ext hxr2)
                  clear hke
                  go_upto_region 32 with (go_at_call 82; refine (HDL.out).mono ?_; rintro e w13 ⟨⟨v13, rfl, hrow14, hown14⟩, hx14⟩)
                  have hS14 : ∀ i ∈ (Value.slice a1 l'.length c1).ownBlock.toList, w10.heap.size ≤ i := fun i hi => (hv11 i (by simpa using hi)).1
                  have g14 := g13.chg hx14 (fun b hb => by have := hS14 b hb; omega)
                  have ld14 := ld13.chg hx14 (fun b hb => by have := hS14 b hb; omega)
                  have P14 := P13.trans (Kp0.chg hx14 (fun hm => by have := hS14 rb hm; omega))
                  have C14 : Chg [rb, nb, xb, mb] w w13 := Chg.drop (Below.refl _ _) ((C13.mono (T := rb :: nb :: xb :: mb :: (Value.slice a1 l'.length c1).ownBlock.toList) (fun k hk => by simp at hk ⊢; omega)).trans (hx14.mono (fun k hk => by simp at hk ⊢; exact .inr (.inr (.inr (.inr hk)))))) (fun i hi => by
                    simp at hi ⊢
                    rcases hi with h | h | h | h | h
                    · exact .inl (.inl h)
                    · exact .inl (.inr (.inl h))
                    · exact .inl (.inr (.inr (.inl h)))
                    · exact .inl (.inr (.inr (.inr h)))
                    · exact .inr (by have := (hv11 i h).1; omega))
                  have hrowQ := hrowP.chg hx14 (fun i hi => by have h1 := hS14 i hi; exact ⟨fun e => by have := hvold i e; omega, fun h => by omega⟩)
                  obtain ⟨a2, c2, hv2, hc2, he2⟩ := hrow14.ents
                  subst hv2
                  have HE2 := Lib.hid he2
                  have hfl2 : (l'.filter fun x => inB (L.map Prod.fst) x.name).length ≤ l'.length := List.length_filter_le _ _
                  have HIN2 := Lib.hid (hin.out.trans (by simp only [Out.bind_ok, HCH.out] : _ = Out.ok (((l'.filter fun x => inB (L.map Prod.fst) x.name), cnt2), r5)))
                  generalize (l'.filter fun x => inB (L.map Prod.fst) x.name) = l2 at *
                  have HML := Lib.hid (show (l2.map Ent.dat).length = l2.length by rw [List.length_map])
                  obtain ⟨-, -, q3, qf3⟩ := id g14
                  have hl14 := g14.1.lt
                  have hsz14 := C14.size
                  clear hx14
                  go_wp2_with (at_builtin; rw [← HML.out]; refine wpList_append_rows (m := 7) (P := fun b => B ≤ b) (B := B) (v := .slice va out.length vc) (l := out.map Ent.dat) Try.underlying38 hk0 kz0 kz1' kz2' rfl (by decide) (by decide) rfl _ _ rfl rfl (hrowQ.mono fun b h _ => h.1) rfl HE2.out (fun e he => (by obtain ⟨x, -, rfl⟩ := List.mem_map.1 he; exact x.dat_length)) (fun b hb _ => ⟨by omega, fun e => by have := hvold b e; omega⟩) (by rw [List.length_map, HML.out]; omega) (by omega) ?_; intro v15 w15 hrow15 hfr15; (have y3 := hfr15.cell q3 (fun e => by have := (GRow.own_ge hrowv e).1; simp only at this; omega)); (have yf3 := hfr15.chg.frozen q3 (fun hm => by have := (GRow.own_ge hrowv (show (Value.slice va out.length vc).ownBlock = some rb by simpa using hm)).1; omega) qf3); (have yl := cell_lt y3); (obtain ⟨a15, c15, hv15, -⟩ := hrow15.form); subst hv15)
                  go_returns
                  simp only [List.length_append, List.length_map] at hrow15 hfr15
                  exact inc_done (l' := l2) (cnt2 := cnt2) hrB hxr hmx HIN2.out P14 C14 hS10 g14 ((hrowQ.mono fun b h _ => h.1).grow fun _ h => h) hrow15 hfr15 ld14
end Go.Proofs.Ytnclgkdpafhogaa
namespace Go.Proofs.Ytnclgkdpafhogaa
open Go.ChangeShapes Go.WideShapes Go.ChangeAt Go.RowKit
set_option maxRecDepth 100000 in
theorem rd1_idle (pb : Addr) (w : World) :
    CallsD Try.prog 51 #[.pointer (some pb)] .returning w fun e u' w' => e = .returned (.tuple #[]) ∧ u' = .returning ∧ w' = w := by
  refine callsD_of_wpS Try.func51 rfl fun c₀ cs hu => ?_
  simp only [Try.ntmps51, List.size_toArray, List.length_cons, List.length_nil, Nat.reduceAdd, Nat.reduceSub, Array.replicate_succ, Array.replicate_zero, List.push_toArray, List.append_toArray, List.nil_append, List.cons_append]
  apply wpS_seq
  apply wpS_region
  simp [wpOpsS, go_sem, recoverD, hu, Exit.thenS]
  refine wpS_of_wp (wp_mono (Q := bodyPost Try.prog Try.f51 fun e w' => e = .returned (.tuple #[]) ∧ w' = w) ?_ ?_)
  · clear hu
    go_wp2
    go_returns
    exact ⟨rfl, rfl⟩
  · intro e a' w' h
    cases e with
    | normal => obtain ⟨hd, v, hr, h1, h2⟩ := h; injection h1 with h1; exact ⟨hd, .returning, by rw [← hu], v, hr, by rw [h1], rfl, h2⟩
    | ret => obtain ⟨hd, v, hr, h1, h2⟩ := h; injection h1 with h1; exact ⟨hd, .returning, by rw [← hu], v, hr, by rw [h1], rfl, h2⟩
    | exit i => exact h.elim
    | goto t => exact h.elim
    | panic ch => obtain ⟨_, h1, _⟩ := h; cases h1
    | outgrown => obtain ⟨h1, _⟩ := h; cases h1
set_option maxRecDepth 100000 in
theorem assert_fault (x : Value) (w : World) : (Instr.typeAssert (.iface 77 x) 20 115 true).run Try.prog w = .ok (.tuple #[.agg #[.int .i64 0], .bool false]) w := by kernel_rfl
set_option maxRecDepth 100000 in
theorem rd1_wrong {l ks : List Tok} (hl : l.length ≤ 1073741824) {rb : Nat} {w : World} {file : Int} {v : Value} (h : PRd rb l w ks file v) (pb n : Nat) (hn : n < l.length) (older : List PanicEntry) (hp : w.cell? ⟨pb, 0, none⟩ = some (.pointer (some ⟨rb, 0, none⟩))) :
    CallsD Try.prog 51 #[.pointer (some ⟨pb, 0, none⟩)] (.panicking (wrongV n :: older)) w fun e u' w' =>
      e = .panicked [faultV ⟨file, (tokAt l n).at', 240⟩] ∧ u' = .panicking ({ wrongV n with recovered := true } :: older) ∧ Ext w w' := by
  have hta := assert_wrong
  have HPL := Lib.hid (fun w' (hx : Ext w w') => place_any hl (h.ext hx) hn)
  unfold wrongV
  refine callsD_of_wpS Try.func51 rfl fun c₀ cs hu => ?_
  simp only [Try.ntmps51, List.size_toArray, List.length_cons, List.length_nil, Nat.reduceAdd, Nat.reduceSub, Array.replicate_succ, Array.replicate_zero, List.push_toArray, List.append_toArray, List.nil_append, List.cons_append]
  apply wpS_seq
  apply wpS_region
  simp [wpOpsS, go_sem, recoverD, hu, Exit.thenS]
  refine wpS_of_wp (wp_mono (Q := bodyPost Try.prog Try.f51 fun e w' => e = .panicked [faultV ⟨file, (tokAt l n).at', 240⟩] ∧ Ext w w') ?_ ?_)
  · clear hu
    have hp1 := (ext_alloc w (.cells #[.int .i64 n] 115)).cell hp
    have hplt := cell_lt hp1
    go_wp2_with (go_at_call 52; refine (HPL.out _ (ext_alloc _ _)).mono ?_; rintro e w1 ⟨rfl, hx1⟩)
    exact ⟨rfl, rfl, (ext_alloc _ _).trans hx1⟩
  · intro e a' w' h
    cases e with
    | normal => obtain ⟨_, _, _, h1, _⟩ := h; cases h1
    | ret => obtain ⟨_, _, _, h1, _⟩ := h; cases h1
    | exit i => exact h.elim
    | goto t => exact h.elim
    | panic ch => obtain ⟨hd, h1, h2⟩ := h; exact ⟨hd, _, rfl, h1, rfl, h2⟩
    | outgrown => obtain ⟨h1, _⟩ := h; cases h1
set_option maxRecDepth 100000 in
theorem rd1_fault (t : Flt) (pb : Addr) (older : List PanicEntry) (w : World) :
    CallsD Try.prog 51 #[.pointer (some pb)] (.panicking (faultV t :: older)) w fun e u' w' =>
      e = .panicked [faultV t] ∧ u' = .panicking ({ faultV t with recovered := true } :: older) ∧ Ext w w' := by
  have hta := assert_fault
  unfold faultV
  refine callsD_of_wpS Try.func51 rfl fun c₀ cs hu => ?_
  simp only [Try.ntmps51, List.size_toArray, List.length_cons, List.length_nil, Nat.reduceAdd, Nat.reduceSub, Array.replicate_succ, Array.replicate_zero, List.push_toArray, List.append_toArray, List.nil_append, List.cons_append]
  apply wpS_seq
  apply wpS_region
  simp [wpOpsS, go_sem, recoverD, hu, Exit.thenS]
  refine wpS_of_wp (wp_mono (Q := bodyPost Try.prog Try.f51 fun e w' => e = .panicked [faultV t] ∧ Ext w w') ?_ ?_)
  · clear hu
    go_wp2
    exact ⟨rfl, rfl, Below.refl _ _⟩
  · intro e a' w' h
    cases e with
    | normal => obtain ⟨_, _, _, h1, _⟩ := h; cases h1
    | ret => obtain ⟨_, _, _, h1, _⟩ := h; cases h1
    | exit i => exact h.elim
    | goto t => exact h.elim
    | panic ch => obtain ⟨hd, h1, h2⟩ := h; exact ⟨hd, _, rfl, h1, rfl, h2⟩
    | outgrown => obtain ⟨h1, _⟩ := h; cases h1
end Go.Proofs.Ytnclgkdpafhogaa
