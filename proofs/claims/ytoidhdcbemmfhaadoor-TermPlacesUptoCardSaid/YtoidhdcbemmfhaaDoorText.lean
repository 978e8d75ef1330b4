/- What term.Text returns: the term's words, or an error. -/
import Derived.Test.YtoidhdcbemmfhaaDoorBuilder
import Derived.Test.YtoidhdcbemmfhaaDoorCheck1
namespace Go.Proofs.YtoidhdcbemmfhaaDoor
open Go.ChangeShapes Go.WideShapes Go.ChangeAt Go.RowKit

def nameAt (l : List Sy) (f : Int) : List UInt8 := match l[f.toNat]? with
  | none => []
  | some s => s.name.data.toList
mutual
def Tm.text (l : List Sy) : Tm → List UInt8
  | .mk f ks => if f < 0 then 88 :: Lib.decDigits (-1 - f).toNat else nameAt l f ++ (Tm.textArgs l 40 ks ++ (if 0 < ks.length then [41] else []))
def Tm.textArgs (l : List Sy) (c : UInt8) : List Tm → List UInt8
  | [] => []
  | t :: ts => (c :: Tm.text l t) ++ Tm.textArgs l 44 ts
end

theorem textArgs_take (l : List Sy) (ks : List Tm) (c : UInt8) (k : Nat) (h : k < ks.length) : Tm.textArgs l c (ks.take (k + 1)) = Tm.textArgs l c (ks.take k) ++ ((if k = 0 then c else 44) :: Tm.text l ks[k]) := by
  induction ks generalizing c k with
  | nil => simp at h
  | cons t ts ih =>
    cases k with
    | zero => simp [Tm.textArgs]
    | succ k =>
      simp only [List.take_succ_cons, Tm.textArgs, List.getElem_cons_succ]
      rw [ih 44 k (by simpa using h)]
      have : (if k + 1 = 0 then c else (44 : UInt8)) = 44 := by simp
      rw [this]
      have : (if k = 0 then (44 : UInt8) else 44) = 44 := by split <;> rfl
      rw [this]
      simp [List.append_assoc]

def namesOk (l : List Sy) : Prop := ∀ s ∈ l, s.name.size ≤ 1048576

theorem nameAt_le {l : List Sy} (h : namesOk l) (f : Int) : (nameAt l f).length ≤ 1048576 := by
  unfold nameAt
  split
  · simp
  · rename_i s hs
    have := h s (List.mem_of_getElem? hs)
    simpa using this

theorem digits_le (i : Nat) (h : i < 100) : (Lib.decDigits i).length ≤ 1048576 := by
  have : ∀ i, i < 100 → (Lib.decDigits i).length ≤ 1048576 := by decide +kernel
  exact this i h

/-- how long a text is at most -/
theorem text_le {l : List Sy} (h : namesOk l) (t : Tm) : t.low 48 = true → (t.text l).length + 2 ≤ t.size * 1048580 := by
  refine Tm.rec (motive_1 := fun t => t.low 48 = true → (t.text l).length + 2 ≤ t.size * 1048580)
    (motive_2 := fun ks => Tm.lows 48 ks = true → ∀ c, (Tm.textArgs l c ks).length ≤ Tm.sizes ks * 1048580) ?_ ?_ ?_ t
  · intro f ks ih hl
    simp only [Tm.low] at hl
    simp only [Tm.text, Tm.size]
    by_cases hf : f < 0
    · rw [if_pos hf] at hl ⊢
      simp only [Bool.and_eq_true, decide_eq_true_eq] at hl
      have := digits_le (-1 - f).toNat (by omega)
      simp only [List.length_cons]
      omega
    · rw [if_neg hf] at hl ⊢
      have h1 := ih hl 40
      have h2 := nameAt_le h f
      simp only [List.length_append]
      have h4 : (if 0 < ks.length then [(41 : UInt8)] else []).length ≤ 1 := by split <;> simp
      omega
  · intro _ c; simp [Tm.textArgs]
  · intro t ts ih1 ih2 hl c
    simp only [Tm.lows, Bool.and_eq_true] at hl
    have h1 := ih1 hl.1
    have h2 := ih2 hl.2 44
    simp only [Tm.textArgs, Tm.sizes, List.length_append, List.length_cons]
    omega
theorem textArgs_take_le (l : List Sy) (ks : List Tm) (c : UInt8) (k : Nat) : (Tm.textArgs l c (ks.take k)).length ≤ (Tm.textArgs l c ks).length := by
  induction ks generalizing c k with
  | nil => simp
  | cons t ts ih =>
    cases k with
    | zero => simp [Tm.textArgs]
    | succ k => simp only [List.take_succ_cons, Tm.textArgs, List.length_append]; have := ih 44 k; omega

theorem okAt_nat (l : List Sy) (top : Bool) (i : Nat) (ks : List Tm) : okAt l top (.mk i ks) = match l[i]? with
      | none => false
      | some s => (s.arity == (ks.length : Int)) && (top || !s.pred) := by
  unfold okAt; rw [if_neg (by simp [Tm.f])]; rfl
theorem text_nat (l : List Sy) (i : Nat) (ks : List Tm) (h : i < l.length) : Tm.text l (.mk i ks) = l[i].name.data.toList ++ (Tm.textArgs l 40 ks ++ (if 0 < ks.length then [41] else [])) := by
  simp only [Tm.text]
  rw [if_neg (by omega)]
  unfold nameAt
  rw [Int.toNat_natCast, List.getElem?_eq_getElem h]

theorem lows_at' {m : Int} {ks : List Tm} (h : Tm.lows m ks = true) {k : Nat} (hk : k < ks.length) : ks[k].low m = true := by
  induction ks generalizing k with
  | nil => simp at hk
  | cons t ts ih =>
    simp only [Tm.lows, Bool.and_eq_true] at h
    cases k with
    | zero => exact h.1
    | succ k => exact ih h.2 (by simpa using hk)
theorem overs_at {l : List Sy} {ks : List Tm} (h : Tm.overs l ks = true) {k : Nat} (hk : k < ks.length) : ks[k].over l false = true := by
  induction ks generalizing k with
  | nil => simp at hk
  | cons t ts ih =>
    simp only [Tm.overs, Bool.and_eq_true] at h
    cases k with
    | zero => exact h.1
    | succ k => exact ih h.2 (by simpa using hk)

def writeV (b bs bd : Nat) : Value := .func (.func 47) #[] #[.pointer (some ⟨b, 0, none⟩), .pointer (some ⟨bs, 0, none⟩), .pointer (some ⟨bd, 0, none⟩)]

theorem cell_obj {w : World} {g : Nat} {c : Array Value} {t : TypeId} {fz : Nat × Nat} (h : w.heap[g]? = some (.cells c t fz)) (i : Nat) : w.cell? ⟨g, i, none⟩ = c[i]? := by
  simp [World.cell?, h]

theorem BFr.ext {b : Nat} {w w' : World} (h : BFr b w w') {w0 : World} (h0 : Ext w0 w) (hb : w0.heap.size ≤ b) : Ext w0 w' := Below.trans h0 (h.below.mono hb)
theorem BFr.alloc {b : Nat} {w w' : World} (h : BFr b w w') (hb : b ≤ w'.heap.size) (o : Obj) : BFr b w (w'.alloc o) := ⟨h.below.alloc hb o, h.kept.alloc o⟩

set_option maxHeartbeats 2000000 in
set_option maxRecDepth 100000 in
theorem write_any (l : List Sy) (_hno : namesOk l) (_hl : l.length ≤ 1048576) (w0 : World) (b bs bd c : Nat) (a : Option Addr) (hb0 : w0.heap.size ≤ b) (hbd : bd ≠ b) (hbs : w0.cell? ⟨bs, 0, none⟩ = some (.slice a l.length c)) (hsy : IsSyms w0 a l) (t : Tm) :
    ∀ (w : World) (acc : List UInt8) (x s : Value) (top : Bool), t.size ≤ 300 → t.low 48 = true → t.over l top = true → IsTm w0 x s t → Ext w0 w → Bld b acc w → b < w.heap.size → acc.length + (t.text l).length ≤ 140737488355328 →
      w.heap[bd]? = some (.cells #[writeV b bs bd] 79 (0, 0)) →
      Calls Tryd.prog 47 #[.agg #[x, s], .pointer (some ⟨b, 0, none⟩), .pointer (some ⟨bs, 0, none⟩), .pointer (some ⟨bd, 0, none⟩)] w
        fun e w' => e = .returned (.tuple #[]) ∧ Bld b (acc ++ t.text l) w' ∧ BFr b w w' := by
  induction t using Tm.ind with
  | h f ks ih =>
    intro w acc x s top hs hlow hov ht hext hbld hbw hlen hd
    simp only [IsTm] at ht
    obtain ⟨rfl, hf1, hf2, a', c', rfl, hc, hk⟩ := ht
    simp only [Tm.size] at hs
    have Hih := Lib.hid ih; clear ih
    by_cases hf : f < 0
    · have Htext := Lib.hid (show Tm.text l (.mk f ks) = 88 :: Lib.decDigits (-1 - f).toNat by simp [Tm.text, hf])
      have hm : -48 ≤ f := by
        simp only [Tm.low, if_pos hf, Bool.and_eq_true, decide_eq_true_eq] at hlow; exact hlow.1
      obtain ⟨i, rfl⟩ : ∃ i : Nat, f = -1 - (i : Int) := ⟨(-1 - f).toNat, by omega⟩
      have hi : i < 100 := by omega
      have e1 : (-1 : Int) - (-1 - (i : Int)) = i := by omega
      clear hlow hov
      go_enter Tryd.func47, Tryd.ntmps47
      have hA := ext_alloc w (.cells #[.int .i64 (-1 - (i : Int)), .slice a' ks.length c'] 27)
      have hB := ext_alloc (w.alloc (.cells #[.int .i64 (-1 - (i : Int)), .slice a' ks.length c'] 27)) (.cells #[.string ⟨#[88]⟩, .string ⟨(Lib.decDigits i).toArray⟩] 9)
      have hj := joined_any b (w.heap.size + 1) 9 (by decide) (by omega) acc [⟨#[88]⟩, ⟨(Lib.decDigits i).toArray⟩] 2 _ (by simp) ((hbld.ext hA).ext hB) (by simpa using objNew (w.alloc (.cells #[.int .i64 (-1 - (i : Int)), .slice a' ks.length c'] 27)) (.cells #[.string ⟨#[88]⟩, .string ⟨(Lib.decDigits i).toArray⟩] 9))
        (by rw [Htext.out] at hlen; simp only [e1, Int.toNat_natCast] at hlen; simpa [bytesOf] using hlen) (by simp; omega)
      have Hj := Lib.hid hj; clear hj
      have hfr : BFr b w ((w.alloc (.cells #[.int .i64 (-1 - (i : Int)), .slice a' ks.length c'] 27)).alloc (.cells #[.string ⟨#[88]⟩, .string ⟨(Lib.decDigits i).toArray⟩] 9)) := ((BFr.refl b w).alloc (by omega) _).alloc (by simp; omega) _
      have Hfr := Lib.hid hfr; clear hfr hA hB
      go_wp2_with (first
        | (go_at_call 49; refine (Tryd.strconv_Itoa_small i hi _).mono ?_; rintro e w' ⟨rfl, rfl⟩)
        | (go_at_call 48; refine (Hj.out).mono ?_; rintro e w1 ⟨rfl, hb1, hf1'⟩))
      go_returns
      refine ⟨rfl, ?_, Hfr.out.trans hf1'⟩
      rw [Htext.out]
      simp only [e1, Int.toNat_natCast]
      simpa [bytesOf] using hb1
    · obtain ⟨i, rfl⟩ : ∃ i : Nat, f = i := ⟨f.toNat, by omega⟩
      simp only [Tm.low, if_neg hf] at hlow
      simp only [Tm.over, Bool.and_eq_true, Bool.or_eq_true, decide_eq_true_eq] at hov
      obtain ⟨hov1, hov2⟩ := hov
      replace hov2 := hov2.resolve_left hf
      have hil : i < l.length := by
        rcases Nat.lt_or_ge i l.length with h | h
        · exact h
        · rw [okAt_nat, List.getElem?_eq_none h] at hov1; cases hov1
      have htext := text_nat l i ks hil
      rw [htext] at hlen
      simp only [List.length_append] at hlen
      generalize Tm.text l (.mk i ks) = T at htext ⊢
      have Htext := Lib.hid htext; clear htext
      obtain ⟨b2, o2, rfl, hok2, g0, g1, g2⟩ := hsy.look hil
      have gt : decide ((i : Int) < 0) = false := decide_eq_false hf
      have hil3 : (i : Int) < l.length := by omega
      generalize hq : l[i] = q at hok2 g0 g1 g2 Htext hlen
      clear hq g1 g2 hov1 hf
      obtain ⟨n, ar, p⟩ := q
      simp only at g0 Htext hlen
      obtain ⟨WA, hWA⟩ : ∃ WA, WA = w.alloc (.cells #[.int .i64 i, .slice a' ks.length c'] 27) := ⟨_, rfl⟩
      have hxA : Ext w WA := by subst hWA; exact ext_alloc _ _
      have hoA : WA.heap[w.heap.size]? = some (.cells #[.int .i64 i, .slice a' ks.length c'] 27 (0, 0)) := by subst hWA; exact objNew _ _
      have hsA : WA.heap.size = w.heap.size + 1 := by subst hWA; simp
      obtain ⟨WB, hWB⟩ : ∃ WB, WB = WA.alloc (.cells #[.string n] 9) := ⟨_, rfl⟩
      have hxB : Ext WA WB := by subst hWB; exact ext_alloc _ _
      have hoB : WB.heap[w.heap.size + 1]? = some (.cells #[.string n] 9 (0, 0)) := by rw [← hsA]; subst hWB; exact objNew _ _
      have hfrB : BFr b w WB := by subst hWB; subst hWA; exact ((BFr.refl b w).alloc (by omega) _).alloc (by simp; omega) _
      have hj := joined_any b (w.heap.size + 1) 9 (by decide) (by omega) acc [n] 1 WB (by simp) ((hbld.ext hxA).ext hxB) (by simpa using hoB) (by simp [bytesOf] at hlen ⊢; omega) (by have := hxB.size; omega)
      have k0 := hxA.cell (hext.cell hbs)
      have k1 := hxA.cell (hext.cell g0)
      have hoA' := hxB.obj hoA
      have hdB := hxB.obj (hxA.obj hd)
      subst hWB
      subst hWA
      have Hj := Lib.hid hj; clear hj
      have HfrB := Lib.hid hfrB; clear hfrB
      have HoA := Lib.hid hoA'; clear hoA' hoA
      have HdB := Lib.hid hdB; clear hdB hoB
      clear hxA hxB hsA hbld hd
      go_enter Tryd.func47, Tryd.ntmps47
      go_wp2_with (go_at_call 48; refine (Hj.out).mono ?_; rintro e w1 ⟨rfl, hb1, hfr1⟩; have q1 : w1.cell? ⟨w.heap.size, 1, none⟩ = some (.slice a' ks.length c') := cell_obj (hfr1.obj HoA.out (by omega) (by decide)) 1)
      have hkl := length_le_sizes ks
      clear k0 k1 q1
      have hfr2 : BFr b w w1 := HfrB.out.trans hfr1
      have hoA1 := hfr1.obj HoA.out (by omega) (by decide)
      have hd1 := hfr1.obj HdB.out hbd (by decide)
      go_loopw [5, 29] (fun bt iv wr => ∃ (k : Nat) (cb : UInt8), k ≤ ks.length ∧ cb = (if k = 0 then 40 else 44) ∧ iv = .int .i64 k ∧ bt = .string ⟨#[cb]⟩ ∧ Bld b (acc ++ n.data.toList ++ Tm.textArgs l 40 (ks.take k)) wr ∧ BFr b w wr ∧ wr.heap[w.heap.size]? = some (.cells #[.int .i64 i, .slice a' ks.length c'] 27 (0, 0)) ∧ wr.heap[bd]? = some (.cells #[writeV b bs bd] 79 (0, 0))) (fun _ i _ => ks.length - (intOf i).toNat)
      case atStart => exact ⟨0, 40, Nat.zero_le _, rfl, rfl, rfl, by simpa [bytesOf, Tm.textArgs] using hb1, hfr2, hoA1, hd1⟩
      case round =>
        obtain ⟨k, cb, hkk, hcb, rfl, rfl, hb2, hfr3, ho2, hd2⟩ := hrel
        have Hcb := Lib.hid hcb; clear hcb
        clear hd1 hoA1
        by_cases hlt : k < ks.length
        · have hextr : Ext w0 wr := hfr3.ext hext hb0
          obtain ⟨b', o', a2, c2, rfl, h1, h2, h3⟩ := hk.look hlt
          have hst := textArgs_take l ks 40 k hlt
          rw [← Hcb.out] at hst
          have hle := textArgs_take_le l ks 40 (k + 1)
          rw [hst] at hle
          simp only [List.length_append, List.length_cons] at hle
          have Hst := Lib.hid hst; clear hst
          have hszr := hfr3.below.size
          obtain ⟨WC, hWC⟩ : ∃ WC, WC = wr.alloc (.cells #[.int .i64 ks[k].f, .slice a2 ks[k].ks.length c2] 27) := ⟨_, rfl⟩
          have hxC : Ext wr WC := by subst hWC; exact ext_alloc _ _
          have hoC : WC.heap[wr.heap.size]? = some (.cells #[.int .i64 ks[k].f, .slice a2 ks[k].ks.length c2] 27 (0, 0)) := by subst hWC; exact objNew _ _
          have hsC : WC.heap.size = wr.heap.size + 1 := by subst hWC; simp
          obtain ⟨WD, hWD⟩ : ∃ WD, WD = WC.alloc (.cells #[.string ⟨#[cb]⟩] 9) := ⟨_, rfl⟩
          have hxD : Ext WC WD := by subst hWD; exact ext_alloc _ _
          have hoD : WD.heap[wr.heap.size + 1]? = some (.cells #[.string ⟨#[cb]⟩] 9 (0, 0)) := by rw [← hsC]; subst hWD; exact objNew _ _
          have hfrD : BFr b w WD := by subst hWD; subst hWC; exact (hfr3.alloc (by omega) _).alloc (by simp; omega) _
          have hj := joined_any b (wr.heap.size + 1) 9 (by decide) (by omega) _ [⟨#[cb]⟩] 1 WD (by simp) ((hb2.ext hxC).ext hxD) (by simpa using hoD) (by simp [bytesOf] at hlen ⊢; omega) (by have := hxD.size; omega)
          have oC := hxD.obj hoC
          have oA := hxD.obj (hxC.obj ho2)
          have oD := hxD.obj (hxC.obj hd2)
          have g1 := hextr.cell h1
          have g2 := hextr.cell h2
          subst hWD
          subst hWC
          have Hj2 := Lib.hid hj; clear hj
          have HfrD := Lib.hid hfrD; clear hfrD
          have HO := Lib.hid (And.intro oC (And.intro oA oD)); clear oC oA oD hxC hxD hoC hoD hsC hb2 ho2 hd2
          have hw : ∀ w3, BFr b ((wr.alloc (.cells #[.int .i64 ks[k].f, .slice a2 ks[k].ks.length c2] 27)).alloc (.cells #[.string ⟨#[cb]⟩] 9)) w3 → Bld b (acc ++ n.data.toList ++ Tm.textArgs l 40 (ks.take k) ++ bytesOf [⟨#[cb]⟩]) w3 →
              Calls Tryd.prog 47 #[.agg #[.int .i64 ks[k].f, .slice a2 ks[k].ks.length c2], .pointer (some ⟨b, 0, none⟩), .pointer (some ⟨bs, 0, none⟩), .pointer (some ⟨bd, 0, none⟩)] w3
                fun e w' => e = .returned (.tuple #[]) ∧ Bld b (acc ++ n.data.toList ++ Tm.textArgs l 40 (ks.take k) ++ bytesOf [⟨#[cb]⟩] ++ ks[k].text l) w' ∧ BFr b w3 w' := by
            intro w3 hf3 hb3
            refine Hih.out _ (List.getElem_mem hlt) w3 _ _ _ false (by have := size_le_sizes hlt; omega) (lows_at' hlow hlt) (overs_at hov2 hlt) h3 ((HfrD.out.trans hf3).ext hext hb0) hb3 (by have := (HfrD.out.trans hf3).below.size; omega) ?_ (hf3.obj HO.out.2.2 hbd (by decide))
            simp [bytesOf] at hlen ⊢; omega
          have Hw := Lib.hid hw; clear hw
          go_wp2_with (first
            | (go_at_call 48; refine (Hj2.out).mono ?_; rintro e w3 ⟨rfl, hb3, hfr4⟩
               have r1 : w3.cell? ⟨bd, 0, none⟩ = some (.func (.func 47) #[] #[.pointer (some ⟨b, 0, none⟩), .pointer (some ⟨bs, 0, none⟩), .pointer (some ⟨bd, 0, none⟩)]) := cell_obj (hfr4.obj HO.out.2.2 hbd (by decide)) 0
               have r2 : w3.cell? ⟨wr.heap.size, 0, none⟩ = some (.int .i64 ks[k].f) := cell_obj (hfr4.obj HO.out.1 (by omega) (by decide)) 0
               have r3 : w3.cell? ⟨wr.heap.size, 1, none⟩ = some (.slice a2 ks[k].ks.length c2) := cell_obj (hfr4.obj HO.out.1 (by omega) (by decide)) 1)
            | (go_at_call 47; refine (Hw.out _ hfr4 hb3).mono ?_; rintro e w4 ⟨rfl, hb4, hfr5⟩))
          go_roundw
          case rel => exact ⟨k + 1, 44, by omega, by simp, by go_num, rfl, by rw [Hst.out]; simpa [bytesOf] using hb4, HfrD.out.trans (hfr4.trans hfr5), hfr5.obj (hfr4.obj HO.out.2.1 (by omega) (by decide)) (by omega) (by decide), hfr5.obj (hfr4.obj HO.out.2.2 hbd (by decide)) hbd (by decide)⟩
          case measure => simp [intOf]; omega
        · have : k = ks.length := by omega
          subst this
          have q1 : wr.cell? ⟨w.heap.size, 1, none⟩ = some (.slice a' ks.length c') := cell_obj ho2 1
          rw [List.take_length] at hb2
          by_cases h0 : 0 < ks.length
          · rw [if_pos h0] at Htext hlen
            have h0i : (0 : Int) < (ks.length : Int) := by omega
            obtain ⟨WC, hWC⟩ : ∃ WC, WC = wr.alloc (.cells #[.string ⟨#[41]⟩] 9) := ⟨_, rfl⟩
            have hxC : Ext wr WC := by subst hWC; exact ext_alloc _ _
            have hoC : WC.heap[wr.heap.size]? = some (.cells #[.string ⟨#[41]⟩] 9 (0, 0)) := by subst hWC; exact objNew _ _
            have hszr := hfr3.below.size
            have hfrC : BFr b w WC := by subst hWC; exact hfr3.alloc (by omega) _
            have hj := joined_any b wr.heap.size 9 (by decide) (by omega) _ [⟨#[41]⟩] 1 WC (by simp) (hb2.ext hxC) (by simpa using hoC) (by simp [bytesOf] at hlen ⊢; omega) (by have := hxC.size; omega)
            subst hWC
            have Hj2 := Lib.hid hj; clear hj
            have HfrC := Lib.hid hfrC; clear hfrC hxC hoC hb2 ho2 hd2
            go_wp2_with (go_at_call 48; refine (Hj2.out).mono ?_; rintro e w3 ⟨rfl, hb3, hfr4⟩)
            go_returns
            refine ⟨rfl, ?_, HfrC.out.trans hfr4⟩
            rw [Htext.out]
            simpa [bytesOf] using hb3
          · rw [if_neg h0] at Htext
            have h0' : decide ((0 : Int) < (ks.length : Int)) = false := decide_eq_false (by omega)
            go_wp2_with fail
            go_returns
            refine ⟨rfl, ?_, hfr3⟩
            rw [Htext.out]
            simpa using hb2

def termText (l : List Sy) (t : Tm) : List UInt8 := if termCheck l t = 0 then t.text l else []

theorem namesOk_of {w : World} {a : Option Addr} {l : List Sy} (h : IsSyms w a l) : namesOk l := fun s hs => by
  obtain ⟨i, hi, rfl⟩ := List.getElem_of_mem hs
  exact (h i hi).1.1
theorem termCheck_zero {l : List Sy} {t : Tm} (h : termCheck l t = 0) : t.size ≤ 300 ∧ t.low 48 = true ∧ t.over l true = true := by
  unfold termCheck at h
  split at h
  · rename_i h1
    obtain ⟨-, h2, h3⟩ := h1
    unfold Tm.small at h2
    simp only [Bool.and_eq_true, decide_eq_true_eq] at h2
    exact ⟨h2.1.1, h2.2, h3⟩
  · cases h
theorem termCheck_cases (l : List Sy) (t : Tm) : termCheck l t = 0 ∨ termCheck l t = 2 := by unfold termCheck; split <;> simp

theorem bld_new (w : World) (b : Nat) (h : w.heap[b]? = some (.cells #[.pointer none, .slice none 0 0] 78 (0, 0))) : Bld b [] w :=
  .inl ⟨Nat.le_refl _, _, h, ⟨rfl, .inl ⟨rfl, rfl⟩⟩, by simp [Value.ownBlock]⟩

set_option maxHeartbeats 1000000 in
set_option maxRecDepth 100000 in
theorem text_any (l : List Sy) (hl : l.length ≤ 1048576) (t : Tm) (hs : t.size ≤ 2097152) (w : World) (a : Option Addr) (c : Nat) (hlc : l.length ≤ c) (hc63 : c ≤ 9223372036854775807) (hsy : IsSyms w a l) (x s : Value) (ht : IsTm w x s t) :
    Calls Tryd.prog 12 #[.agg #[.slice a l.length c], .agg #[x, s]] w fun e w' => e = .returned (.tuple #[.string ⟨(termText l t).toArray⟩, .int .i64 (termCheck l t)]) ∧ Ext w w' := by
  have ht0 := ht
  obtain ⟨a', c', rfl, rfl, -, -, -, -⟩ := ht.form
  obtain ⟨W, hW⟩ : ∃ W, W = ((w.alloc (.cells #[.slice a l.length c] 24)).alloc (.cells #[.int .i64 t.f, .slice a' t.ks.length c'] 27)) := ⟨_, rfl⟩
  have hx : Ext w W := by subst hW; go_grown
  have k0 : W.cell? ⟨w.heap.size, 0, none⟩ = some (.slice a l.length c) := by subst hW; go_simp
  have k1 : W.cell? ⟨w.heap.size + 1, 0, none⟩ = some (.int .i64 t.f) := by subst hW; go_simp
  have k2 : W.cell? ⟨w.heap.size + 1, 1, none⟩ = some (.slice a' t.ks.length c') := by subst hW; go_simp
  have hch := termCheck_any l hl t hs W a c hlc hc63 (hsy.ext hx) _ _ (ht0.ext hx)
  subst hW
  have Hx := Lib.hid hx; clear hx
  have Hch := Lib.hid hch; clear hch
  have Hk := Lib.hid (And.intro k0 (And.intro k1 k2)); clear k0 k1 k2
  clear ht
  rcases termCheck_cases l t with hz | hz
  · obtain ⟨z1, z2, z3⟩ := termCheck_zero hz
    have hT : termText l t = t.text l := by unfold termText; rw [if_pos hz]
    rw [hz] at Hch
    rw [hz, hT]
    have hlen := text_le (namesOk_of hsy) t z2
    have hw : ∀ w1, Ext ((w.alloc (.cells #[.slice a l.length c] 24)).alloc (.cells #[.int .i64 t.f, .slice a' t.ks.length c'] 27)) w1 →
        Calls Tryd.prog 47 #[.agg #[.int .i64 t.f, .slice a' t.ks.length c'], .pointer (some ⟨w1.heap.size, 0, none⟩), .pointer (some ⟨w.heap.size, 0, none⟩), .pointer (some ⟨w1.heap.size + 1, 0, none⟩)]
          ((w1.alloc (.cells #[.pointer none, .slice none 0 0] 78)).alloc (.cells #[writeV w1.heap.size w.heap.size (w1.heap.size + 1)] 79))
          fun e w' => e = .returned (.tuple #[]) ∧ Bld w1.heap.size (t.text l) w' ∧ Ext w1 w' := by
      intro w1 hx1
      have hsy1 := hsy.ext (Ext.trans Hx.out hx1)
      have htt := ht0.ext (Ext.trans Hx.out hx1)
      have q := hx1.cell Hk.out.1
      obtain ⟨WA, hWA⟩ : ∃ WA, WA = w1.alloc (.cells #[.pointer none, .slice none 0 0] 78) := ⟨_, rfl⟩
      have hxA : Ext w1 WA := by subst hWA; exact ext_alloc _ _
      have hoA : WA.heap[w1.heap.size]? = some (.cells #[.pointer none, .slice none 0 0] 78 (0, 0)) := by subst hWA; exact objNew _ _
      have hsA : WA.heap.size = w1.heap.size + 1 := by subst hWA; simp
      rw [← hWA]
      have hd := objNew WA (.cells #[writeV w1.heap.size w.heap.size (w1.heap.size + 1)] 79)
      rw [hsA] at hd
      have hxB := ext_alloc WA (.cells #[writeV w1.heap.size w.heap.size (w1.heap.size + 1)] 79)
      refine (write_any l (namesOk_of hsy) hl w1 w1.heap.size w.heap.size (w1.heap.size + 1) c a (Nat.le_refl _) (by omega) q hsy1 t _ [] _ _ true z1 z2 z3 htt (Ext.trans hxA hxB) ((bld_new _ _ hoA).ext hxB) (by have := hxB.size; omega) (by simp; omega) hd).mono ?_
      rintro e w' ⟨rfl, h1, h2⟩
      exact ⟨rfl, by simpa using h1, h2.ext (Ext.trans hxA hxB) (Nat.le_refl _)⟩
    have Hw := Lib.hid hw; clear hw hT hz z1 z2 z3 hlen
    go_enter Tryd.func12, Tryd.ntmps12
    go_wp2_with (first
      | (go_at_call 14; refine (Hch.out).mono ?_; rintro e w1 ⟨rfl, hx1⟩
         obtain ⟨k0, k1, k2⟩ : w1.cell? ⟨w.heap.size, 0, none⟩ = some (.slice a l.length c) ∧ w1.cell? ⟨w.heap.size + 1, 0, none⟩ = some (.int .i64 t.f) ∧ w1.cell? ⟨w.heap.size + 1, 1, none⟩ = some (.slice a' t.ks.length c') := ⟨hx1.cell Hk.out.1, hx1.cell Hk.out.2.1, hx1.cell Hk.out.2.2⟩
         have hxx := Ext.trans (ext_alloc w1 (.cells #[.pointer none, .slice none 0 0] 78)) (ext_alloc _ (.cells #[.func (.func 47) #[] #[.pointer (some ⟨w1.heap.size, 0, none⟩), .pointer (some ⟨w.heap.size, 0, none⟩), .pointer (some ⟨w1.heap.size + 1, 0, none⟩)]] 79))
         have m1 := hxx.cell k1
         have m2 := hxx.cell k2
         clear hxx)
      | (go_at_call 47; refine (Hw.out _ hx1).mono ?_; rintro e w2 ⟨rfl, hb2, hx2⟩)
      | (go_at_call 50; refine (Tryd.Builder_String_any_k _ _ (t.text l) _ hb2 (Nat.le_trans (Nat.le_refl _) hx2.size)).mono ?_; rintro e w3 ⟨rfl, hb3, hx3, -⟩))
    go_ret2
    exact ⟨rfl, Ext.trans Hx.out (Ext.trans hx1 (Below.trans hx2 hx3))⟩
  · have hT : termText l t = [] := by unfold termText; rw [if_neg (by omega)]
    rw [hz] at Hch
    rw [hz, hT]
    clear hz hT
    go_enter Tryd.func12, Tryd.ntmps12
    go_wp2_with ((go_at_call 14; refine (Hch.out).mono ?_; rintro e w1 ⟨rfl, hx1⟩))
    go_ret2
    exact ⟨rfl, Ext.trans Hx.out hx1⟩
end Go.Proofs.YtoidhdcbemmfhaaDoor
