/- (*loader).read: a text with all that it includes. Condition: texts of at most 1048576 bytes, at most 2^20 files.
tptp.Read. Condition: texts of at most 1048576 bytes, at most 2^20 files.
The wake-up of law 14: what the document says of a file that is included. Condition: bytealg.MaxLen holds some integer.
The walk of the law TptpIncluded. Conditions: a text of at most 1048576 bytes; bytealg.MaxLen holds some integer. -/
import Derived.Test.YtnclgkdpafhogaaQi27
import Derived.Test.YtnclgkdpafhogaaQi28
import Derived.Test.YtnclgkdpafhogaaQi30
import Derived.Test.YtnclgkdpafhogaaQi0
namespace Go.Proofs.Ytnclgkdpafhogaa
open Go.ChangeShapes Go.WideShapes Go.ChangeAt Go.RowKit
theorem not_goexit {t : Flt} {older : List PanicEntry} (h : older.all (fun p => !p.goexit) = true) : (({ faultV t with recovered := true } : PanicEntry) :: older).all (fun p => !p.goexit) = true := by
  rw [List.all_cons, h]; rfl
/-- a reader is left, whichever way -/
theorem left_ends {xb mb rb dep : Nat} {l : List Tok} {files : List (ByteArray × ByteArray)} {opn : Nat → Bool} {file : Int} {t : Flt} {e : Ending} {w0 w : World} {fn : Func} {tmps : Array Value} {pb : Nat} {res : Out (List Ent × Nat)} (hl : l.length ≤ 1073741824) (hl0 : 0 < l.length) (h : LeftBy rb l file t e w) (hp : w.cell? ⟨pb, 0, none⟩ = some (.pointer (some ⟨rb, 0, none⟩))) (hres : res = .flt t) (hc : Chg [xb, mb] w0 w) {chain : List PanicEntry} (he : e = .panicked chain) :
    Leaves Try.prog fn tmps (RdFPost xb mb files dep opn w0 res) [{ target := .fn (.func 51) #[.pointer (some ⟨pb, 0, none⟩)], args := #[] }] (.panicking chain) w := by
  subst hres
  rcases h with ⟨r, ks, v, ht, he', hprd⟩ | ⟨older, he', hol⟩
  · rw [he] at he'
    injection he' with he'
    subst he'
    subst ht
    refine leaves_cons (f := 51) (args := #[.pointer (some ⟨pb, 0, none⟩)]) (by simp) (by simp [go_sem]) ?_
    refine (rd1_wrong hl hprd pb (badAt l r) (by have : badAt l r ≤ l.length - 1 := Nat.min_le_right _ _; omega) [] hp).mono ?_
    rintro e' u' w' ⟨rfl, rfl, hx⟩
    exact ⟨hc.trans (Chg.of_ext hx), _, rfl, rfl⟩
  · rw [he] at he'
    injection he' with he'
    subst he'
    refine leaves_cons (f := 51) (args := #[.pointer (some ⟨pb, 0, none⟩)]) (by simp) (by simp [go_sem]) ?_
    refine (rd1_fault t ⟨pb, 0, none⟩ older w).mono ?_
    rintro e' u' w' ⟨rfl, rfl, hx⟩
    exact ⟨hc.trans (Chg.of_ext hx), _, rfl, not_goexit hol⟩
/-- what stands in a reading's round -/
def RdRel (xb mb dep B pb rb : Nat) (l : List Tok) (file : Int) (files : List (ByteArray × ByteArray)) (opn : Nat → Bool) (rd : Nat → Nat → Nat → Out (List Ent × Nat)) (ahead cnt0 : Nat) (w0 : World) (g : Nat) (wr : World) : Prop :=
  ∃ (ks : List Tok) (v : Value) (out : List Ent) (cnt : Nat), g = ks.length ∧ PRd rb l wr ks file v ∧ EntRow B wr v out ∧ LdSt xb mb wr files cnt dep opn ∧ Ends ks ∧ TkAb xb rb l wr ∧ wr.cell? ⟨pb, 0, none⟩ = some (.pointer (some ⟨rb, 0, none⟩)) ∧ Chg [xb, mb] w0 wr ∧ ahead + out.length ≤ 200 ∧ B ≤ wr.heap.size ∧
    ∃ f, ks.length < f ∧ itemsF rd files opn l file ahead (l.length + 1) l [] cnt0 = itemsF rd files opn l file ahead f ks out cnt
theorem word_ways (s : ByteArray) : (s = sFof ∧ (s.toList == [102, 111, 102]) = true ∧ (s.toList == [99, 110, 102]) = false ∧ decide (s = sCnf) = false) ∨ (s = sCnf ∧ (s.toList == [102, 111, 102]) = false ∧ (s.toList == [99, 110, 102]) = true ∧ decide (s = sCnf) = true) ∨
    (s = sIncl ∧ (s.toList == [102, 111, 102]) = false ∧ (s.toList == [99, 110, 102]) = false ∧ (s.toList == [105, 110, 99, 108, 117, 100, 101]) = true ∧ ¬ (s = sFof ∨ s = sCnf)) ∨
    ((¬ (s = sFof ∨ s = sCnf) ∧ ¬ s = sIncl) ∧ (s.toList == [102, 111, 102]) = false ∧ (s.toList == [99, 110, 102]) = false ∧ (s.toList == [105, 110, 99, 108, 117, 100, 101]) = false) := by
  have e1 : ∀ b, decide (s = sFof) = b → (s.toList == [102, 111, 102]) = b := fun b h => eqL (r := sFof) (by rw [Go.ByteArray.toList_eq]; rfl) h
  have e2 : ∀ b, decide (s = sCnf) = b → (s.toList == [99, 110, 102]) = b := fun b h => eqL (r := sCnf) (by rw [Go.ByteArray.toList_eq]; rfl) h
  have e3 : ∀ b, decide (s = sIncl) = b → (s.toList == [105, 110, 99, 108, 117, 100, 101]) = b := fun b h => eqL (r := sIncl) (by rw [Go.ByteArray.toList_eq]; rfl) h
  by_cases h1 : s = sFof
  · subst h1; exact .inl ⟨rfl, e1 _ (by decide), e2 _ (by decide), by decide⟩
  by_cases h2 : s = sCnf
  · subst h2; exact .inr (.inl ⟨rfl, e1 _ (by decide), e2 _ (by decide), by decide⟩)
  by_cases h3 : s = sIncl
  · subst h3; exact .inr (.inr (.inl ⟨rfl, e1 _ (by decide), e2 _ (by decide), e3 _ (by decide), by decide⟩))
  · exact .inr (.inr (.inr ⟨⟨fun h => h.elim h1 h2, h3⟩, e1 _ (decide_eq_false h1), e2 _ (decide_eq_false h2), e3 _ (decide_eq_false h3)⟩))
theorem LeftBy.chain {rb : Nat} {l : List Tok} {file : Int} {t : Flt} {e : Ending} {w : World} (h : LeftBy rb l file t e w) : ∃ chain, e = .panicked chain := by
  rcases h with ⟨r, ks, v, ht, he, hp⟩ | ⟨older, he, -⟩
  · exact ⟨_, he⟩
  · exact ⟨_, he⟩
theorem setc_chg (w : World) (rb : Nat) (x : Value) : Chg [rb] w (w.setCell ⟨rb, 1, none⟩ x) := (Chg.refl [rb] w).setCell _ (.inl (by simp))
theorem setc_kp (w : World) (rb : Nat) (x : Value) : Kp0 rb w (w.setCell ⟨rb, 1, none⟩ x) := fun u hu => by rw [World.cell?_setCell_other _ _ _ _ (by simp)]; exact hu
/-- what is of the call's own is left out -/
theorem drop_own {xb mb rb : Nat} {v x : Value} {w0 wr w4 w5 : World} (h : Chg [xb, mb] w0 wr) (hx : Ext wr w4) (h5 : Chg (rb :: v.ownBlock.toList) (w4.setCell ⟨rb, 1, none⟩ x) w5) (hr : w0.heap.size ≤ rb) (hv : ∀ g, v.ownBlock = some g → w0.heap.size ≤ g) : Chg [xb, mb] w0 w5 := by
  refine Chg.drop (S := xb :: mb :: rb :: v.ownBlock.toList) (Below.refl _ _) ((h.mono (by simp)).trans ((Chg.of_ext hx).trans (((setc_chg w4 rb x).mono (by simp)).trans (h5.mono (fun k hk => by simp at hk ⊢; rcases hk with h | h; exact .inr (.inr (.inl h)); exact .inr (.inr (.inr h))))))) fun i hi => ?_
  simp at hi ⊢
  rcases hi with h | h | h | h
  · exact .inl (.inl h)
  · exact .inl (.inr h)
  · exact .inr (by omega)
  · exact .inr (hv i h)
theorem drop_own2 {xb mb rb : Nat} {v x : Value} {w0 wr w4 w5 : World} (h : Chg [xb, mb] w0 wr) (hx : Ext wr w4) (h5 : Chg (rb :: xb :: mb :: v.ownBlock.toList) (w4.setCell ⟨rb, 1, none⟩ x) w5) (hr : w0.heap.size ≤ rb) (hv : ∀ g, v.ownBlock = some g → w0.heap.size ≤ g) : Chg [xb, mb] w0 w5 := by
  refine Chg.drop (S := rb :: xb :: mb :: v.ownBlock.toList) (Below.refl _ _) ((h.mono (fun k hk => by simp at hk ⊢; rcases hk with h | h; exact .inr (.inl h); exact .inr (.inr (.inl h)))).trans ((Chg.of_ext hx).trans (((setc_chg w4 rb x).mono (by simp)).trans h5))) fun i hi => ?_
  simp at hi ⊢
  rcases hi with h | h | h | h
  · exact .inr (by omega)
  · exact .inl (.inl h)
  · exact .inl (.inr h)
  · exact .inr (hv i h)
theorem Own.two {w : World} {b : Nat} {x y : Value} {vs : List Value} (h : Own w b (x :: y :: vs)) : Own w b [x, y] := fun i v hv => h i v (by
  match i, hv with
  | 0, hv => exact hv
  | 1, hv => exact hv
  | n + 2, hv => simp at hv)
set_option maxHeartbeats 16000000 in
set_option maxRecDepth 100000 in
theorem readF_any {files : List (ByteArray × ByteArray)} (hfl : files.length ≤ 1048576) (htx : ∀ f ∈ files, f.2.size ≤ 1048576) (d : Nat) : ∀ (opn : Nat → Bool), shut files.length opn < d → ∀ (xb mb cnt dep : Nat) (w : World), LdSt xb mb w files cnt dep opn → ∀ (file : Int) (s : ByteArray), s.size ≤ 1048576 → ∀ ahead : Nat, ahead ≤ 200 →
    Calls Try.prog 30 #[.pointer (some ⟨xb, 0, none⟩), .int .i64 file, .string s, .int .i64 ahead] w (RdFPost xb mb files dep opn w (readF files d opn file s ahead cnt)) := by
  induction d with
  | zero => intro opn hd; exact absurd hd (Nat.not_lt_zero _)
  | succ d ih =>
    intro opn hd xb mb cnt dep w hld file s hs ahead hah
    have HIH := Lib.hid ih
    clear ih
    obtain ⟨fa, fc, n, ho, hfc, hfiles, hom, hnd, hcnt, hmx, hml, m, hmlc⟩ := id hld
    have HC := Lib.hid (cut_any s hs w m hmlc)
    have hends := fun h => cutS_ends (s := s) h
    have hlen := cutS_len s
    have HE := Lib.hid (show readF files (d + 1) opn file s ahead cnt = if (cutS s).2.2 ≠ 0 then .flt ⟨file, ((cutS s).2.1 : Nat), (cutS s).2.2⟩
      else itemsF (fun i n c => readF files d (fun k => decide (k = i) || opn k) i (textOf files i) n c) files opn (cutS s).1 file ahead ((cutS s).1.length + 1) (cutS s).1 [] cnt from rfl)
    have HLD := Lib.hid hld
    clear ho hfiles hom hmlc hnd hcnt hfc hld
    generalize cutS s = ct at HC HE hends hlen
    obtain ⟨l, at', er⟩ := ct
    simp only at HE hends hlen
    by_cases h0 : er = 0
    case neg =>
      have q1 : (er != 0) = true := by rw [bne_iff_ne]; exact h0
      replace HE := Lib.hid (HE.out.trans (if_pos h0))
      clear h0 hends HIH
      go_enter_defers Try.func30, Try.ntmps30
      go_wp2_with (go_at_call 18; refine (HC.out).mono ?_; rintro e w1 ⟨⟨v, rfl, hv⟩, hx1⟩)
      have hfin : RdFPost xb mb files dep opn w (readF files (d + 1) opn file s ahead cnt) (.panicked [faultV ⟨file, (at' : Nat), er⟩]) w1 := by
        rw [HE.out]
        exact ⟨Chg.of_ext hx1, [], rfl, rfl⟩
      exact hfin
    case pos =>
      subst h0
      replace HE := Lib.hid (HE.out.trans (if_neg (fun h => h rfl)))
      have hE := hends rfl
      have hne := hE.pos
      have hl2 : l.length ≤ 1073741824 := by omega
      clear hends
      have hlx := HLD.out.lt
      go_enter_defers Try.func30, Try.ntmps30
      go_upto_region 4 with (go_at_call 18; refine (HC.out).mono ?_; rintro e w1 ⟨⟨v, rfl, hv⟩, hx1⟩; (obtain ⟨a, c, rfl, hc, hd3⟩ := GRow.dat (by decide) hv); rw [List.length_map] at hc; simp only [List.length_map]; dsimp only at hv hc hd3 ⊢)
      have hs1 := hx1.size
      obtain ⟨V, hV⟩ : ∃ V, V = (w1.alloc (.cells #[.slice a l.length c, .int .i64 0, .int .i64 file, .slice none 0 0] 113)).alloc (.cells #[.pointer (some ⟨w1.heap.size, 0, none⟩)] 111) := ⟨_, rfl⟩
      have e1 : Ext w1 V := by rw [hV]; exact (ext_alloc _ _).alloc _
      have hbr : Own V w1.heap.size [.slice a l.length c, .int .i64 0, .int .i64 file, .slice none 0 0] := by rw [hV]; exact (own4 w1 _ _ _ _ _).ext (ext_alloc _ _)
      have hbp : Own V (w1.heap.size + 1) [.pointer (some ⟨w1.heap.size, 0, none⟩)] := by
        rw [hV]; have := own1 (w1.alloc (.cells #[.slice a l.length c, .int .i64 0, .int .i64 file, .slice none 0 0] 113)) (.pointer (some ⟨w1.heap.size, 0, none⟩)) 111
        rw [World.size_alloc] at this; exact this
      have hsV : V.heap.size = w1.heap.size + 2 := by rw [hV]; simp
      obtain ⟨rb, hrbe⟩ : ∃ rb, rb = w1.heap.size := ⟨_, rfl⟩
      obtain ⟨pb, hpbe⟩ : ∃ pb, pb = w1.heap.size + 1 := ⟨_, rfl⟩
      rw [← hpbe] at hbp
      rw [← hrbe] at hbr hbp
      have hxrb : xb < rb := by omega
      have hrbp : rb < pb := by omega
      have hpbV : pb < V.heap.size := by omega
      have hg0 : PRd rb l V l file (.slice none 0 0) := ⟨⟨List.suffix_refl _, a, c, hbr.two.eq (by simp), hc, Dat.Rows.ext (Dat.Rows.mono hd3 fun b _ h => (show b < rb by omega)) e1⟩, hbr 2 _ rfl, hbr 3 _ rfl⟩
      have ht0 : TkAb xb rb l V := ⟨a, c, (hbr 0 _ rfl).1, Dat.Rows.ext (Dat.Rows.mono hd3 fun b h1 h2 => (show xb < b ∧ b < rb from ⟨by omega, by omega⟩)) e1⟩
      have hl0 := HLD.out.ext (hx1.trans e1)
      have hp0 := (hbp 0 _ rfl).1
      have C0 : Chg [xb, mb] w V := Chg.of_ext (hx1.trans e1)
      obtain ⟨rd, hrd⟩ : ∃ rd : Nat → Nat → Nat → Out (List Ent × Nat), rd = fun i n c => readF files d (fun k => decide (k = i) || opn k) i (textOf files i) n c := ⟨_, rfl⟩
      rw [← hrd] at HE
      have HLN := Lib.hid (show ∀ (i n c : Nat) (x : List Ent × Nat), n ≤ 200 → rd i n c = .ok x → n + x.1.length ≤ 200 from fun i n c x hn hx => by subst hrd; exact readF_len d _ _ _ n c x hn hx)
      have HRD := Lib.hid (fun (cnt' : Nat) (i : Nat) (hi : i < files.length) (w' : World) (n : Nat) (hn : n ≤ 200) (ho : opn i = false) (hl' : LdSt xb mb w' files (cnt' + 1) (dep + 1) (fun k => if k = i then true else opn k)) =>
        (by subst hrd; have := HIH.out (fun k => if k = i then true else opn k) (by have := shut_lt (opn := opn) hi ho; omega) xb mb (cnt' + 1) (dep + 1) w' hl' i (textOf files i) (by unfold textOf; rw [List.getElem?_eq_getElem hi]; exact htx _ (List.getElem_mem hi)) n hn; rw [← opn_eq] at this ⊢; exact this : Calls Try.prog 30 #[.pointer (some ⟨xb, 0, none⟩), .int .i64 i, .string (textOf files i), .int .i64 n] w' (RdFPost xb mb files (dep + 1) (fun k => if k = i then true else opn k) w' (rd i n (cnt' + 1)))))
      go_wp2_with fail
      rw [← hV, ← hpbe]
      try rw [← hrbe]
      have hVB : rb < V.heap.size := by omega
      have hwrb : w.heap.size ≤ rb := by omega
      clear hV hbr hbp hv hd3 HC HIH hrd hrbe hpbe hsV
      have HP := Lib.hid (fun w' ks' (h : Cur rb l w' ks') => peek_any hl2 h)
      have HE0 := HE
      go_loopg [] l.length (fun g wr => RdRel xb mb dep V.heap.size pb rb l file files opn rd ahead cnt w g wr)
      case atStart => exact ⟨l, _, [], cnt, rfl, hg0, GRow.nil, hl0, hE, ht0, hp0, C0, by simpa using hah, Nat.le_refl _, l.length + 1, by omega, rfl⟩
      case round =>
        obtain ⟨ks, v, out, cnt', hg, g0, hrow, hld, hEk, htk, hp, hch, hal, hBr, f, hf, heq⟩ := hrel
        have HG := Lib.hid hg
        obtain ⟨f, rfl⟩ : ∃ f', f = f' + 1 := ⟨f - 1, by omega⟩
        replace HE := Lib.hid (HE.out.trans heq)
        have hlp := cell_lt hp
        have hlr := g0.1.lt
        have hf0 := field_tok0
        have hf1 := field_tok1
        clear hg heq hg0 ht0 hl0 hp0 C0
        by_cases h7 : (peekT ks).kind = 7
        · replace HE := Lib.hid (HE.out.trans (show _ = Out.ok (out, cnt') by unfold itemsF; rw [if_pos h7]))
          have q7 : ((peekT ks).kind != 7) = false := by rw [bne_eq_false_iff_eq]; exact h7
          have HP1 := Lib.hid (HP.out wr ks g0.1)
          have hkc := g0.1
          clear h7
          generalize peekT ks = t at *
          obtain ⟨kd, tx, ta⟩ := t
          simp only at q7
          simp only [Tok.vals] at HP1
          go_wp2_with (go_at_call 53; refine (HP1.out).mono ?_; rintro e w2 ⟨rfl, hx2⟩; have hp2 := hx2.cell hp; (obtain ⟨-, -, q3, -⟩ := g0.ext hx2); have l2 := cell_lt hp2; have l3 := cell_lt q3)
          refine leaves_cons (f := 51) (args := #[.pointer (some ⟨pb, 0, none⟩)]) (by simp) (by simp [go_sem]) ?_
          refine (rd1_idle ⟨pb, 0, none⟩ _).mono ?_
          rintro e u' w3 ⟨rfl, rfl, rfl⟩
          have hfin : RdFPost xb mb files dep opn w (readF files (d + 1) opn file s ahead cnt) (.returned v) w3 := by
            rw [HE.out]
            exact ⟨hch.trans (Chg.of_ext hx2), v, rfl, GRow.down (GRow.ext hrow hx2) (by have := e1.size; omega), hld.ext hx2⟩
          simp [Leaves, settle, results, Try.results30, go_sem]
          exact hfin
        · obtain ⟨t, r, rfl, hr⟩ : ∃ t r, ks = t :: r ∧ Ends r := by
            cases ks with
            | nil => exact absurd rfl h7
            | cons t r => exact ⟨t, r, rfl, hEk.tail h7⟩
          have hpk : peekT (t :: r) = t := rfl
          rw [hpk] at h7
          have HP1 := Lib.hid (fun w' (h : Cur rb l w' (t :: r)) => (by have := HP.out w' (t :: r) h; rw [hpk] at this; exact this : Calls Try.prog 53 #[.pointer (some ⟨rb, 0, none⟩)] w' fun e w'' => e = .returned (.agg t.vals) ∧ Ext w' w''))
          have HBD := Lib.hid (fun w' (h : Cur rb l w' (t :: r)) => bad_any hl2 hne h)
          have hsuf : t :: r <:+ l := g0.1.1
          have q7 : (t.kind != 7) = true := by rw [bne_iff_ne]; exact h7
          have HI := Lib.hid (show itemsF rd files opn l file ahead (f + 1) (t :: r) out cnt' = if t.kind = 1 ∧ (t.text = sFof ∨ t.text = sCnf) then
              (entR l file (decide (t.text = sCnf)) t.at' (ahead + out.length) r).bind fun x => itemsF rd files opn l file ahead f x.2 (out ++ [x.1]) cnt'
            else if t.kind = 1 ∧ t.text = sIncl then (incR rd files opn l file (ahead + out.length) cnt' r).bind fun x => itemsF rd files opn l file ahead f x.2 (out ++ x.1.1) x.1.2
            else .flt (itemAt l file (t :: r)) by conv => lhs; unfold itemsF
                                                  rw [hpk, if_neg h7]; rfl)
          have hrl : r.length < f := by simp at hf; omega
          clear h7 hpk hEk
          by_cases h1 : t.kind = 1
          case neg =>
            have q1 : (t.kind == 1) = false := by rw [beq_eq_false_iff_ne]; exact h1
            replace HE := Lib.hid (HE.out.trans (HI.out.trans (by rw [if_neg (fun h => h1 h.1), if_neg (fun h => h1 h.1)])))
            clear h1 HI
            obtain ⟨kd, tx, ta⟩ := t
            simp only [Tok.vals] at HP1 q7 q1
            go_wp2_with (first | (go_at_call 56; refine (HBD.out w3 ((g0.ext hx2).ext hx3).1).mono ?_; rintro e w5 ⟨rfl, hx5⟩) | (go_at_call 53; refine (HP1.out w2 (g0.ext hx2).1).mono ?_; rintro e w3 ⟨rfl, hx3⟩; have hp3 := hx3.cell hp2; have l3 := cell_lt hp3; have lr3 := ((g0.ext hx2).ext hx3).1.lt) | (go_at_call 53; refine (HP1.out wr g0.1).mono ?_; rintro e w2 ⟨rfl, hx2⟩; have hp2 := hx2.cell hp; have l2 := cell_lt hp2; have lr2 := (g0.ext hx2).1.lt))
            exact left_ends hl2 hne (.inl ⟨_, _, _, rfl, rfl, ((g0.ext hx2).ext hx3).ext hx5⟩) (hx5.cell hp3) HE.out (hch.trans (Chg.of_ext ((hx2.trans hx3).trans hx5))) rfl
          case pos =>
            have q1 : (t.kind == 1) = true := by rw [beq_iff_eq]; exact h1
            obtain ⟨pz, hpz, -, hp1, hp2', hp3'⟩ := suf_at hsuf
            have HZ := Lib.hid hp2'
            have hrsuf : r <:+ l := (List.suffix_cons t r).trans hsuf
            rcases word_ways t.text with ⟨hw, q2, q3, hcn⟩ | ⟨hw, q2, q3, hcn⟩ | ⟨hw, q2, q3, q4, hcn⟩ | ⟨hw, q2, q3, q4⟩
            · replace HE := Lib.hid (HE.out.trans (HI.out.trans (by rw [if_pos ⟨h1, .inl hw⟩, hcn])))
              have hge := fun g hg => GRow.own_ge hrow (g := g) hg
              have HEN := Lib.hid (fun (w4 : World) (hx : Ext wr w4) => entry_any (by omega) hE (B := V.heap.size) hsuf hr ((g0.ext hx).move hrsuf (z := (pz : Int) + 1) (by omega)) (GRow.chg (GRow.ext hrow hx) ((Chg.refl [rb] w4).setCell (p := ⟨rb, 1, none⟩) (.int .i64 ((pz : Int) + 1)) (.inl (by simp))) (by simp; omega)) hVB (by have := hx.size; simp; omega) false ahead (by omega) (by omega))
              unfold EntPost at HEN
              clear h1 HI hw hcn
              obtain ⟨kd, tx, ta⟩ := t
              simp only [Tok.vals] at HP1 q7 q1 q2 q3
              simp only at HE HEN
              cases her : entR l file false ta (ahead + out.length) r with
              | flt tf =>
                rw [her] at HEN HE
                clear her
                go_wp2_with (first | (go_at_call 54; refine (HEN.out w4 ((hx2.trans hx3).trans hx4)).mono ?_; rintro e w5 ⟨hch5, hres⟩; (obtain ⟨chain, rfl⟩ := LeftBy.chain hres)) | (go_at_call 53; refine (HP1.out w3 ((g0.ext hx2).ext hx3).1).mono ?_; rintro e w4 ⟨rfl, hx4⟩; have hp4 := hx4.cell hp3; have l4 := cell_lt hp4; (obtain ⟨z1, zf1, lr4⟩ := (((g0.ext hx2).ext hx3).ext hx4).at1); rw [HZ.out] at z1) | (go_at_call 53; refine (HP1.out w2 (g0.ext hx2).1).mono ?_; rintro e w3 ⟨rfl, hx3⟩; have hp3 := hx3.cell hp2; have l3 := cell_lt hp3; have lr3 := ((g0.ext hx2).ext hx3).1.lt) | (go_at_call 53; refine (HP1.out wr g0.1).mono ?_; rintro e w2 ⟨rfl, hx2⟩; have hp2 := hx2.cell hp; have l2 := cell_lt hp2; have lr2 := (g0.ext hx2).1.lt))
                exact left_ends hl2 hne hres (hch5.cell ((setc_chg w4 rb _).cell hp4 (by simp; omega)) (fun hm => by simp at hm; rcases hm with h | h; omega; have := (hge _ h).1; omega)) HE.out (drop_own hch ((hx2.trans hx3).trans hx4) hch5 (by have := e1.size; omega) (fun g hg => by have := (hge g hg).1; have := e1.size; omega)) rfl
              | ok xr =>
                rw [her] at HEN HE
                obtain ⟨x, r2⟩ := xr
                obtain ⟨k1, k2, k3, k4⟩ := entR_ok hE hrsuf hr her
                clear her
                go_wp2_with (first | (go_at_call 54; refine (HEN.out w4 ((hx2.trans hx3).trans hx4)).mono ?_; rintro e w5 ⟨hch5, rfl, hkp5, v5, hpr5, hrow5, hown5⟩) | (go_at_call 53; refine (HP1.out w3 ((g0.ext hx2).ext hx3).1).mono ?_; rintro e w4 ⟨rfl, hx4⟩; have hp4 := hx4.cell hp3; have l4 := cell_lt hp4; (obtain ⟨z1, zf1, lr4⟩ := (((g0.ext hx2).ext hx3).ext hx4).at1); rw [HZ.out] at z1) | (go_at_call 53; refine (HP1.out w2 (g0.ext hx2).1).mono ?_; rintro e w3 ⟨rfl, hx3⟩; have hp3 := hx3.cell hp2; have l3 := cell_lt hp3; have lr3 := ((g0.ext hx2).ext hx3).1.lt) | (go_at_call 53; refine (HP1.out wr g0.1).mono ?_; rintro e w2 ⟨rfl, hx2⟩; have hp2 := hx2.cell hp; have l2 := cell_lt hp2; have lr2 := (g0.ext hx2).1.lt))
                go_roundg r2.length
                case measure => have := HG.out; simp at this; go_light; omega
                case rel =>
                  have hnown : ∀ g ∈ (rb :: v.ownBlock.toList), g = rb ∨ V.heap.size ≤ g := fun g hm => by simp at hm; rcases hm with h | h; exact .inl h; exact .inr (hge _ h).1
                  refine ⟨r2, v5, out ++ [x], cnt', rfl, hpr5, hrow5, ((hld.ext ((hx2.trans hx3).trans hx4)).chg (setc_chg w4 rb _) (by simp; omega)).chg hch5 (fun b hb => by rcases hnown b hb with h | h <;> omega), k3, ((htk.chg (Chg.of_ext (S := []) ((hx2.trans hx3).trans hx4)) (Kp0.ext ((hx2.trans hx3).trans hx4)) (by simp)).chg (setc_chg w4 rb _) (setc_kp w4 rb _) (by simp)).chg hch5 hkp5 (fun b hb => by rcases hnown b hb with h | h <;> omega), hch5.cell ((setc_chg w4 rb _).cell hp4 (by simp; omega)) (fun hm => by rcases hnown pb hm with h | h <;> omega), drop_own hch ((hx2.trans hx3).trans hx4) hch5 (by have := e1.size; omega) (fun g hg => by have := (hge g hg).1; have := e1.size; omega), by simp; omega, by have h1 := hch5.size; have h2 := ((hx2.trans hx3).trans hx4).size; simp at h1; omega, f, by omega, HE0.out.symm.trans HE.out⟩
            · replace HE := Lib.hid (HE.out.trans (HI.out.trans (by rw [if_pos ⟨h1, .inr hw⟩, hcn])))
              have hge := fun g hg => GRow.own_ge hrow (g := g) hg
              have HEN := Lib.hid (fun (w4 : World) (hx : Ext wr w4) => entry_any (by omega) hE (B := V.heap.size) hsuf hr ((g0.ext hx).move hrsuf (z := (pz : Int) + 1) (by omega)) (GRow.chg (GRow.ext hrow hx) ((Chg.refl [rb] w4).setCell (p := ⟨rb, 1, none⟩) (.int .i64 ((pz : Int) + 1)) (.inl (by simp))) (by simp; omega)) hVB (by have := hx.size; simp; omega) true ahead (by omega) (by omega))
              unfold EntPost at HEN
              clear h1 HI hw hcn
              obtain ⟨kd, tx, ta⟩ := t
              simp only [Tok.vals] at HP1 q7 q1 q2 q3
              simp only at HE HEN
              cases her : entR l file true ta (ahead + out.length) r with
              | flt tf =>
                rw [her] at HEN HE
                clear her
                go_wp2_with (first | (go_at_call 54; refine (HEN.out w4 ((hx2.trans hx3).trans hx4)).mono ?_; rintro e w5 ⟨hch5, hres⟩; (obtain ⟨chain, rfl⟩ := LeftBy.chain hres)) | (go_at_call 53; refine (HP1.out w3 ((g0.ext hx2).ext hx3).1).mono ?_; rintro e w4 ⟨rfl, hx4⟩; have hp4 := hx4.cell hp3; have l4 := cell_lt hp4; (obtain ⟨z1, zf1, lr4⟩ := (((g0.ext hx2).ext hx3).ext hx4).at1); rw [HZ.out] at z1) | (go_at_call 53; refine (HP1.out w2 (g0.ext hx2).1).mono ?_; rintro e w3 ⟨rfl, hx3⟩; have hp3 := hx3.cell hp2; have l3 := cell_lt hp3; have lr3 := ((g0.ext hx2).ext hx3).1.lt) | (go_at_call 53; refine (HP1.out wr g0.1).mono ?_; rintro e w2 ⟨rfl, hx2⟩; have hp2 := hx2.cell hp; have l2 := cell_lt hp2; have lr2 := (g0.ext hx2).1.lt))
                exact left_ends hl2 hne hres (hch5.cell ((setc_chg w4 rb _).cell hp4 (by simp; omega)) (fun hm => by simp at hm; rcases hm with h | h; omega; have := (hge _ h).1; omega)) HE.out (drop_own hch ((hx2.trans hx3).trans hx4) hch5 (by have := e1.size; omega) (fun g hg => by have := (hge g hg).1; have := e1.size; omega)) rfl
              | ok xr =>
                rw [her] at HEN HE
                obtain ⟨x, r2⟩ := xr
                obtain ⟨k1, k2, k3, k4⟩ := entR_ok hE hrsuf hr her
                clear her
                go_wp2_with (first | (go_at_call 54; refine (HEN.out w4 ((hx2.trans hx3).trans hx4)).mono ?_; rintro e w5 ⟨hch5, rfl, hkp5, v5, hpr5, hrow5, hown5⟩) | (go_at_call 53; refine (HP1.out w3 ((g0.ext hx2).ext hx3).1).mono ?_; rintro e w4 ⟨rfl, hx4⟩; have hp4 := hx4.cell hp3; have l4 := cell_lt hp4; (obtain ⟨z1, zf1, lr4⟩ := (((g0.ext hx2).ext hx3).ext hx4).at1); rw [HZ.out] at z1) | (go_at_call 53; refine (HP1.out w2 (g0.ext hx2).1).mono ?_; rintro e w3 ⟨rfl, hx3⟩; have hp3 := hx3.cell hp2; have l3 := cell_lt hp3; have lr3 := ((g0.ext hx2).ext hx3).1.lt) | (go_at_call 53; refine (HP1.out wr g0.1).mono ?_; rintro e w2 ⟨rfl, hx2⟩; have hp2 := hx2.cell hp; have l2 := cell_lt hp2; have lr2 := (g0.ext hx2).1.lt))
                go_roundg r2.length
                case measure => have := HG.out; simp at this; go_light; omega
                case rel =>
                  have hnown : ∀ g ∈ (rb :: v.ownBlock.toList), g = rb ∨ V.heap.size ≤ g := fun g hm => by simp at hm; rcases hm with h | h; exact .inl h; exact .inr (hge _ h).1
                  refine ⟨r2, v5, out ++ [x], cnt', rfl, hpr5, hrow5, ((hld.ext ((hx2.trans hx3).trans hx4)).chg (setc_chg w4 rb _) (by simp; omega)).chg hch5 (fun b hb => by rcases hnown b hb with h | h <;> omega), k3, ((htk.chg (Chg.of_ext (S := []) ((hx2.trans hx3).trans hx4)) (Kp0.ext ((hx2.trans hx3).trans hx4)) (by simp)).chg (setc_chg w4 rb _) (setc_kp w4 rb _) (by simp)).chg hch5 hkp5 (fun b hb => by rcases hnown b hb with h | h <;> omega), hch5.cell ((setc_chg w4 rb _).cell hp4 (by simp; omega)) (fun hm => by rcases hnown pb hm with h | h <;> omega), drop_own hch ((hx2.trans hx3).trans hx4) hch5 (by have := e1.size; omega) (fun g hg => by have := (hge g hg).1; have := e1.size; omega), by simp; omega, by have h1 := hch5.size; have h2 := ((hx2.trans hx3).trans hx4).size; simp at h1; omega, f, by omega, HE0.out.symm.trans HE.out⟩
            · replace HE := Lib.hid (HE.out.trans (HI.out.trans (by rw [if_neg (fun h => hcn h.2), if_pos ⟨h1, hw⟩])))
              have hge := fun g hg => GRow.own_ge hrow (g := g) hg
              have HIN := Lib.hid (fun (w4 : World) (hx : Ext wr w4) => include_any (by omega) hE (B := V.heap.size) hsuf hr ((g0.ext hx).move hrsuf (z := (pz : Int) + 1) (by omega)) (GRow.chg (GRow.ext hrow hx) ((Chg.refl [rb] w4).setCell (p := ⟨rb, 1, none⟩) (.int .i64 ((pz : Int) + 1)) (.inl (by simp))) (by simp; omega)) hVB (by have := hx.size; simp; omega)
                ((hld.ext hx).chg (setc_chg w4 rb _) (by simp; omega)) hxrb hfl ((htk.chg (Chg.of_ext (S := []) hx) (Kp0.ext hx) (by simp)).chg (setc_chg w4 rb _) (setc_kp w4 rb _) (by simp)) ahead hal HLN.out (HRD.out cnt'))
              unfold IncPost at HIN
              clear h1 HI hw hcn
              obtain ⟨kd, tx, ta⟩ := t
              simp only [Tok.vals] at HP1 q7 q1 q2 q3 q4
              cases her : incR rd files opn l file (ahead + out.length) cnt' r with
              | flt tf =>
                rw [her] at HIN HE
                clear her
                go_wp2_with (first | (go_at_call 55; refine (HIN.out w4 ((hx2.trans hx3).trans hx4)).mono ?_; rintro e w5 ⟨hch5, hres⟩; (obtain ⟨chain, rfl⟩ := LeftBy.chain hres)) | (go_at_call 53; refine (HP1.out w3 ((g0.ext hx2).ext hx3).1).mono ?_; rintro e w4 ⟨rfl, hx4⟩; have hp4 := hx4.cell hp3; have l4 := cell_lt hp4; (obtain ⟨z1, zf1, lr4⟩ := (((g0.ext hx2).ext hx3).ext hx4).at1); rw [HZ.out] at z1) | (go_at_call 53; refine (HP1.out w2 (g0.ext hx2).1).mono ?_; rintro e w3 ⟨rfl, hx3⟩; have hp3 := hx3.cell hp2; have l3 := cell_lt hp3; have lr3 := ((g0.ext hx2).ext hx3).1.lt) | (go_at_call 53; refine (HP1.out wr g0.1).mono ?_; rintro e w2 ⟨rfl, hx2⟩; have hp2 := hx2.cell hp; have l2 := cell_lt hp2; have lr2 := (g0.ext hx2).1.lt))
                exact left_ends hl2 hne hres (hch5.cell ((setc_chg w4 rb _).cell hp4 (by simp; omega)) (fun hm => by simp at hm; rcases hm with h | h | h | h; omega; omega; omega; have := (hge _ h).1; omega)) HE.out (drop_own2 hch ((hx2.trans hx3).trans hx4) hch5 hwrb (fun g hg => by have := (hge g hg).1; have := e1.size; omega)) rfl
              | ok xr =>
                rw [her] at HIN HE
                obtain ⟨⟨l', cnt2⟩, r2⟩ := xr
                obtain ⟨k1, k2, k3⟩ := incR_ok hr her
                have hlen2 : ahead + (out ++ l').length ≤ 200 := incR_len HLN.out hal her
                clear her
                go_wp2_with (first | (go_at_call 55; refine (HIN.out w4 ((hx2.trans hx3).trans hx4)).mono ?_; rintro e w5 ⟨hch5, rfl, hkp5, v5, hpr5, hrow5, hown5, hld5⟩) | (go_at_call 53; refine (HP1.out w3 ((g0.ext hx2).ext hx3).1).mono ?_; rintro e w4 ⟨rfl, hx4⟩; have hp4 := hx4.cell hp3; have l4 := cell_lt hp4; (obtain ⟨z1, zf1, lr4⟩ := (((g0.ext hx2).ext hx3).ext hx4).at1); rw [HZ.out] at z1) | (go_at_call 53; refine (HP1.out w2 (g0.ext hx2).1).mono ?_; rintro e w3 ⟨rfl, hx3⟩; have hp3 := hx3.cell hp2; have l3 := cell_lt hp3; have lr3 := ((g0.ext hx2).ext hx3).1.lt) | (go_at_call 53; refine (HP1.out wr g0.1).mono ?_; rintro e w2 ⟨rfl, hx2⟩; have hp2 := hx2.cell hp; have l2 := cell_lt hp2; have lr2 := (g0.ext hx2).1.lt))
                go_roundg r2.length
                case measure => have := HG.out; simp at this; go_light; omega
                case rel =>
                  have hnown : ∀ g ∈ (rb :: xb :: mb :: v.ownBlock.toList), g = rb ∨ g = xb ∨ g = mb ∨ V.heap.size ≤ g := fun g hm => by simp at hm; rcases hm with h | h | h | h; exact .inl h; exact .inr (.inl h); exact .inr (.inr (.inl h)); exact .inr (.inr (.inr (hge _ h).1))
                  exact ⟨r2, v5, out ++ l', cnt2, rfl, hpr5, hrow5, hld5, k3, ((htk.chg (Chg.of_ext (S := []) ((hx2.trans hx3).trans hx4)) (Kp0.ext ((hx2.trans hx3).trans hx4)) (by simp)).chg (setc_chg w4 rb _) (setc_kp w4 rb _) (by simp)).chg hch5 hkp5 (fun b hb => by rcases hnown b hb with h | h | h | h <;> omega), hch5.cell ((setc_chg w4 rb _).cell hp4 (by simp; omega)) (fun hm => by rcases hnown pb hm with h | h | h | h <;> omega), drop_own2 hch ((hx2.trans hx3).trans hx4) hch5 hwrb (fun g hg => by have := (hge g hg).1; have := e1.size; omega), hlen2, by have h1 := hch5.size; have h2 := ((hx2.trans hx3).trans hx4).size; simp at h1; omega, f, by omega, HE0.out.symm.trans HE.out⟩
            · replace HE := Lib.hid (HE.out.trans (HI.out.trans (by rw [if_neg (fun h => hw.1 h.2), if_neg (fun h => hw.2 h.2)])))
              clear h1 HI hw
              obtain ⟨kd, tx, ta⟩ := t
              simp only [Tok.vals] at HP1 q7 q1 q2 q3 q4
              go_wp2_with (first | (go_at_call 56; refine (HBD.out w4 (((g0.ext hx2).ext hx3).ext hx4).1).mono ?_; rintro e w5 ⟨rfl, hx5⟩) | (go_at_call 53; refine (HP1.out w3 ((g0.ext hx2).ext hx3).1).mono ?_; rintro e w4 ⟨rfl, hx4⟩; have hp4 := hx4.cell hp3; have l4 := cell_lt hp4; (obtain ⟨z1, zf1, lr4⟩ := (((g0.ext hx2).ext hx3).ext hx4).at1); rw [HZ.out] at z1) | (go_at_call 53; refine (HP1.out w2 (g0.ext hx2).1).mono ?_; rintro e w3 ⟨rfl, hx3⟩; have hp3 := hx3.cell hp2; have l3 := cell_lt hp3; have lr3 := ((g0.ext hx2).ext hx3).1.lt) | (go_at_call 53; refine (HP1.out wr g0.1).mono ?_; rintro e w2 ⟨rfl, hx2⟩; have hp2 := hx2.cell hp; have l2 := cell_lt hp2; have lr2 := (g0.ext hx2).1.lt))
              exact left_ends hl2 hne (.inl ⟨_, _, _, rfl, rfl, (((g0.ext hx2).ext hx3).ext hx4).ext hx5⟩) (hx5.cell hp4) HE.out (hch.trans (Chg.of_ext (((hx2.trans hx3).trans hx4).trans hx5))) rfl
end Go.Proofs.Ytnclgkdpafhogaa
namespace Go.Proofs.Ytnclgkdpafhogaa
open Go.ChangeShapes Go.WideShapes Go.ChangeAt Go.RowKit Go.Maps
set_option maxRecDepth 100000 in
theorem rdD_idle (p q r : Addr) (w : World) :
    CallsD Try.prog 29 #[.pointer (some p), .pointer (some q), .pointer (some r)] .returning w fun e u' w' => e = .returned (.tuple #[]) ∧ u' = .returning ∧ w' = w := by
  refine callsD_of_wpS Try.func29 rfl fun c₀ cs hu => ?_
  simp only [Try.ntmps29, List.size_toArray, List.length_cons, List.length_nil, Nat.reduceAdd, Nat.reduceSub, Array.replicate_succ, Array.replicate_zero, List.push_toArray, List.append_toArray, List.nil_append, List.cons_append]
  apply wpS_seq
  apply wpS_region
  simp [wpOpsS, go_sem, recoverD, hu, Exit.thenS]
  refine wpS_of_wp (wp_mono (Q := bodyPost Try.prog Try.f29 fun e w' => e = .returned (.tuple #[]) ∧ w' = w) ?_ ?_)
  · clear hu
    go_wp2
    go_returns
    exact ⟨rfl, rfl⟩
  · intro e a' w' h
    cases e with
    | normal => obtain ⟨hd, v, hr, h1, h2⟩ := h; injection h1 with h1; exact ⟨hd, .returning, by rw [← hu], v, hr, by rw [h1], rfl, h2⟩
    | ret => obtain ⟨hd, v, hr, h1, h2⟩ := h; injection h1 with h1; exact ⟨hd, .returning, by rw [← hu], v, hr, by rw [h1], rfl, h2⟩
    | exit i => exact h.elim
    | goto t => exact h.elim
    | panic ch => obtain ⟨_, h1, _⟩ := h; cases h1
    | outgrown => obtain ⟨h1, _⟩ := h; cases h1
set_option maxRecDepth 100000 in
theorem assert_isFault (x : Value) (w : World) : (Instr.typeAssert (.iface 77 x) 20 77 true).run Try.prog w = .ok (.tuple #[x, .bool true]) w := by kernel_rfl
def CaughtAs (lb ab eb : Nat) (t : Flt) (w : World) : Prop := w.cell? ⟨lb, 0, none⟩ = some (.slice none 0 0) ∧ (w.cell? ⟨ab, 0, none⟩ = some (.int .i64 t.file) ∧ w.cell? ⟨ab, 1, none⟩ = some (.int .i64 t.at')) ∧ w.cell? ⟨eb, 0, none⟩ = some (.int .i64 t.e)
set_option maxRecDepth 100000 in
set_option maxHeartbeats 1000000 in
theorem rdD_fault (t : Flt) (lb ab eb : Nat) {x y z u : Value} {older : List PanicEntry} {w : World} (hl : Own w lb [x]) (ha : Own w ab [y, z]) (he : Own w eb [u]) (h1 : lb < ab) (h2 : ab < eb) :
    CallsD Try.prog 29 #[.pointer (some ⟨lb, 0, none⟩), .pointer (some ⟨ab, 0, none⟩), .pointer (some ⟨eb, 0, none⟩)] (.panicking (faultV t :: older)) w fun e u' w' =>
      e = .returned (.tuple #[]) ∧ u' = .panicking ({ faultV t with recovered := true } :: older) ∧ CaughtAs lb ab eb t w' ∧ Chg [lb, ab, eb] w w' := by
  have hta := assert_isFault
  have HO := Lib.hid (And.intro hl (And.intro ha he))
  unfold faultV
  refine callsD_of_wpS Try.func29 rfl fun c₀ cs hu => ?_
  simp only [Try.ntmps29, List.size_toArray, List.length_cons, List.length_nil, Nat.reduceAdd, Nat.reduceSub, Array.replicate_succ, Array.replicate_zero, List.push_toArray, List.append_toArray, List.nil_append, List.cons_append]
  apply wpS_seq
  apply wpS_region
  simp [wpOpsS, go_sem, recoverD, hu, Exit.thenS]
  refine wpS_of_wp (wp_mono (Q := bodyPost Try.prog Try.f29 fun e w' => e = .returned (.tuple #[]) ∧ CaughtAs lb ab eb t w' ∧ Chg [lb, ab, eb] w w') ?_ ?_)
  · clear hu
    obtain ⟨W, hW⟩ : ∃ W, W = w.alloc (.cells #[.int .i64 t.file, .int .i64 t.at', .int .i64 t.e] 77) := ⟨_, rfl⟩
    have hx : Ext w W := by rw [hW]; exact ext_alloc _ _
    have hb : Own W w.heap.size [.int .i64 t.file, .int .i64 t.at', .int .i64 t.e] := by rw [hW]; exact own3 w _ _ _ _
    obtain ⟨l0, lf0⟩ := (hl.ext hx) 0 _ rfl
    obtain ⟨a0, af0⟩ := (ha.ext hx) 0 _ rfl
    obtain ⟨a1, af1⟩ := (ha.ext hx) 1 _ rfl
    obtain ⟨e0, ef0⟩ := (he.ext hx) 0 _ rfl
    obtain ⟨b0, -⟩ := hb 0 _ rfl
    obtain ⟨b1, -⟩ := hb 1 _ rfl
    obtain ⟨b2, -⟩ := hb 2 _ rfl
    have k1 := cell_lt l0
    have k2 := cell_lt a0
    have k3 := cell_lt e0
    have k4 := cell_lt b0
    have m1 := hl.lt
    have m2 := ha.lt
    have m3 := he.lt
    have n7 : lb ≠ w.heap.size := by omega
    have n8 : ab ≠ w.heap.size := by omega
    have n9 : eb ≠ w.heap.size := by omega
    have n10 : w.heap.size ≠ lb := by omega
    have n11 : w.heap.size ≠ ab := by omega
    have n12 : w.heap.size ≠ eb := by omega
    have n1 : lb ≠ ab := by omega
    have n2 : lb ≠ eb := by omega
    have n3 : ab ≠ eb := by omega
    have n4 : ab ≠ lb := by omega
    have n5 : eb ≠ lb := by omega
    have n6 : eb ≠ ab := by omega
    clear hl ha he hb
    go_upto_region 7 with fail
    rw [← hW]
    clear hW
    go_region
    all_goals
      go_wp2_with fail
      go_returns
      have c1 : Chg [lb] W (W.setCell ⟨lb, 0, none⟩ (.slice none 0 0)) := (Chg.refl [lb] W).setCell _ (.inl (by simp))
      have c2 : Chg [ab] (W.setCell ⟨lb, 0, none⟩ (.slice none 0 0)) (((W.setCell ⟨lb, 0, none⟩ (.slice none 0 0)).setCell ⟨ab, 0, none⟩ (.int .i64 t.file)).setCell ⟨ab, 1, none⟩ (.int .i64 t.at')) := ((Chg.refl [ab] _).setCell _ (.inl (by simp))).setCell _ (.inl (by simp))
      have c3 : Chg [eb] (((W.setCell ⟨lb, 0, none⟩ (.slice none 0 0)).setCell ⟨ab, 0, none⟩ (.int .i64 t.file)).setCell ⟨ab, 1, none⟩ (.int .i64 t.at')) ((((W.setCell ⟨lb, 0, none⟩ (.slice none 0 0)).setCell ⟨ab, 0, none⟩ (.int .i64 t.file)).setCell ⟨ab, 1, none⟩ (.int .i64 t.at')).setCell ⟨eb, 0, none⟩ (.int .i64 t.e)) := (Chg.refl [eb] _).setCell _ (.inl (by simp))
      have hd := Ext.drew (Below.refl _ ((((W.setCell ⟨lb, 0, none⟩ (.slice none 0 0)).setCell ⟨ab, 0, none⟩ (.int .i64 t.file)).setCell ⟨ab, 1, none⟩ (.int .i64 t.at')).setCell ⟨eb, 0, none⟩ (.int .i64 t.e)))
      have p1 := (((HO.out.1.ext hx).set (i := 0) (by simp) (.slice none 0 0)).chg c2 (by simpa using n1)).chg c3 (by simpa using n2)
      have p2 := ((((HO.out.2.1.ext hx).chg c1 (by simpa using n4)).set (i := 0) (by simp) (.int .i64 t.file)).set (i := 1) (by simp) (.int .i64 t.at')).chg c3 (by simpa using n3)
      have p3 := (((HO.out.2.2.ext hx).chg c1 (by simpa using n5)).chg c2 (by simpa using n6)).set (i := 0) (by simp) (.int .i64 t.e)
      exact ⟨rfl, ⟨((p1.ext hd) 0 _ rfl).1, ⟨((p2.ext hd) 0 _ rfl).1, ((p2.ext hd) 1 _ rfl).1⟩, ((p3.ext hd) 0 _ rfl).1⟩, (Chg.of_ext hx).trans ((c1.mono (by simp)).trans ((c2.mono (by simp)).trans ((c3.mono (by simp)).trans (Chg.of_ext hd))))⟩
  · intro e a' w' h
    cases e with
    | normal => obtain ⟨hd, v, hr, h1, h2⟩ := h; injection h1 with h1; exact ⟨hd, _, rfl, v, hr, by rw [h1], rfl, h2⟩
    | ret => obtain ⟨hd, v, hr, h1, h2⟩ := h; injection h1 with h1; exact ⟨hd, _, rfl, v, hr, by rw [h1], rfl, h2⟩
    | exit i => exact h.elim
    | goto t => exact h.elim
    | panic ch => obtain ⟨_, h1, _⟩ := h; cases h1
    | outgrown => obtain ⟨h1, _⟩ := h; cases h1
theorem dropWhile_all {α : Type} {p : α → Bool} : ∀ {l : List α}, l.all p = true → l.dropWhile p = []
  | [], _ => rfl
  | a :: l, h => by
    rw [List.all_cons, Bool.and_eq_true] at h
    rw [List.dropWhile_cons, if_pos h.1]
    exact dropWhile_all h.2
/-- what a reading of a problem says: entries, or a fault -/
def ReadP (res : Out (List Ent)) (w : World) (e : Ending) (w' : World) : Prop :=
  (match res with
  | .ok l => ∃ a c, e = .returned (.tuple #[.slice a l.length c, .agg #[.int .i64 0, .int .i64 0], .int .i64 0]) ∧ l.length ≤ c ∧ IsEnts (fun b => w.heap.size ≤ b) w' a l
  | .flt t => e = .returned (.tuple #[.slice none 0 0, .agg #[.int .i64 t.file, .int .i64 t.at'], .int .i64 t.e])) ∧ Ext w w'
set_option maxHeartbeats 4000000 in
set_option maxRecDepth 100000 in
theorem readP_any {files : List (ByteArray × ByteArray)} (hfl : files.length ≤ 1048576) (htx : ∀ f ∈ files, f.2.size ≤ 1048576) (s : ByteArray) (hs : s.size ≤ 1048576) {P : Nat → Prop} {w : World} {fa : Option Addr} {fc : Nat} (hf : IsFiles P w fa files) (hc : files.length ≤ fc) {m : Int} (hm : w.cell? ⟨0, 0, none⟩ = some (.int .i64 m)) :
    Calls Try.prog 11 #[.string s, .slice fa files.length fc] w (ReadP (readP files s) w) := by
  have hmm := @run_makeMap Try.prog
  have hml := cell_lt hm
  obtain ⟨W, hW⟩ : ∃ W, W = ((w.alloc (.cells #[.slice none 0 0] 38)).alloc (.cells #[.int .i64 0, .int .i64 0] 40)).alloc (.cells #[.int .i64 0] 30) := ⟨_, rfl⟩
  have e1 : Ext w W := by rw [hW]; exact ((ext_alloc _ _).alloc _).alloc _
  have hsW : W.heap.size = w.heap.size + 3 := by rw [hW]; simp
  have bl : Own W w.heap.size [.slice none 0 0] := by rw [hW]; exact ((own1 w _ _).ext (ext_alloc _ _)).ext (ext_alloc _ _)
  have ba : Own W (w.heap.size + 1) [.int .i64 0, .int .i64 0] := by
    rw [hW]; have := (own2 (w.alloc (.cells #[.slice none 0 0] 38)) (.int .i64 0) (.int .i64 0) 40).ext (ext_alloc _ (.cells #[.int .i64 0] 30))
    rw [World.size_alloc] at this; exact this
  have be : Own W (w.heap.size + 2) [.int .i64 0] := by
    rw [hW]; have := own1 ((w.alloc (.cells #[.slice none 0 0] 38)).alloc (.cells #[.int .i64 0, .int .i64 0] 40)) (.int .i64 0) 30
    rw [World.size_alloc, World.size_alloc] at this; exact this
  obtain ⟨V, hV⟩ : ∃ V, V = (W.alloc (.map #[] 0)).alloc (.cells #[.slice fa files.length fc, .map (some W.heap.size), .int .i64 0] 81) := ⟨_, rfl⟩
  have e2 : Ext W V := by rw [hV]; exact (ext_alloc _ _).alloc _
  have hsV : V.heap.size = W.heap.size + 2 := by rw [hV]; simp
  have hld : LdSt (W.heap.size + 1) W.heap.size V files 0 0 (fun _ => false) := by
    refine ⟨fa, fc, 0, ?_, hc, Dat.Rows.ext (Dat.Rows.ext (Dat.Rows.mono hf fun b _ h => (show b < W.heap.size by omega)) e1) e2, ?_, by omega, by omega, by omega, by simp only at hml; omega, m, e2.cell (e1.cell hm)⟩
    · rw [hV]; have := own3 (W.alloc (.map #[] 0)) (.slice fa files.length fc) (.map (some W.heap.size)) (.int .i64 0) 81
      rw [World.size_alloc] at this; exact this
    · refine (omap_new W).keep ?_
      rw [hV]; exact (ext_alloc _ _).block W.heap.size (by simp)
  have HR := Lib.hid (readF_any hfl htx (files.length + 1) (fun _ => false) (by have := shut_le files.length (fun _ => false); omega) (W.heap.size + 1) W.heap.size 0 0 V hld (-1) s hs 0 (by omega))
  have HE := Lib.hid (show readP files s = (readF files (files.length + 1) (fun _ => false) (-1) s 0 0).bind fun x => .ok x.1 from rfl)
  unfold RdFPost at HR
  obtain ⟨lb, hlb⟩ : ∃ lb, lb = w.heap.size := ⟨_, rfl⟩
  obtain ⟨ab, hab⟩ : ∃ ab, ab = w.heap.size + 1 := ⟨_, rfl⟩
  obtain ⟨eb, heb⟩ : ∃ eb, eb = w.heap.size + 1 + 1 := ⟨_, rfl⟩
  rw [← hlb] at bl
  rw [← hab] at ba
  rw [show w.heap.size + 2 = eb by omega] at be
  have hlt1 : w.heap.size ≤ lb := by omega
  have hlt2 : lb < ab := by omega
  have hlt3 : ab < eb := by omega
  have hlt4 : eb < W.heap.size := by omega
  have hsV' : W.heap.size + 1 < V.heap.size := by omega
  have HEQS := Lib.hid (And.intro hlb (And.intro hab heb))
  clear hld hf hsW hsV hlb hab heb
  cases hr : readF files (files.length + 1) (fun _ => false) (-1) s 0 0 with
  | flt t =>
    rw [hr] at HR HE
    clear hr
    go_enter_defers Try.func11, Try.ntmps11
    go_upto_region 1 with fail
    rw [← hW, ← HEQS.out.2.2, ← HEQS.out.2.1, ← HEQS.out.1]
    clear hW HEQS
    go_upto_region 3 with fail
    rw [← hV]
    clear hV
    go_wp2_with (go_at_call 30; refine (HR.out).mono ?_; rintro e w3 ⟨hx3, older, rfl, hol⟩)
    have bl3 := (bl.ext e2).chg hx3 (by simp; omega)
    have ba3 := (ba.ext e2).chg hx3 (by simp; omega)
    have be3 := (be.ext e2).chg hx3 (by simp; omega)
    refine leaves_cons (f := 29) (args := #[.pointer (some ⟨lb, 0, none⟩), .pointer (some ⟨ab, 0, none⟩), .pointer (some ⟨eb, 0, none⟩)]) (by simp) (by simp [go_sem]) ?_
    refine (rdD_fault t lb ab eb bl3 ba3 be3 (by omega) (by omega)).mono ?_
    rintro e u' w4 ⟨rfl, rfl, ⟨q1, ⟨q2, q3⟩, q4⟩, hc4⟩
    have hdw : older.dropWhile (fun p => !p.goexit) = [] := dropWhile_all hol
    have hfin : ReadP (readP files s) w (.returned (.tuple #[.slice none 0 0, .agg #[.int .i64 t.file, .int .i64 t.at'], .int .i64 t.e])) w4 := by
      rw [HE.out]
      exact ⟨rfl, Chg.ext (e1.trans e2) (((hx3.mono (T := [W.heap.size + 1, W.heap.size, lb, ab, eb]) (by simp)).trans (hc4.mono (by simp)))) (by simp; omega)⟩
    simp [Leaves, settle, hdw, results, Try.results11, go_sem, q1, q2, q3, q4]
    exact hfin
  | ok x =>
    rw [hr] at HR HE
    clear hr
    obtain ⟨l, cnt⟩ := x
    go_enter_defers Try.func11, Try.ntmps11
    go_upto_region 1 with fail
    rw [← hW, ← HEQS.out.2.2, ← HEQS.out.2.1, ← HEQS.out.1]
    clear hW HEQS
    go_upto_region 3 with fail
    rw [← hV]
    clear hV
    go_wp2_with (go_at_call 30; refine (HR.out).mono ?_; rintro e w3 ⟨hx3, v3, rfl, hrow3, -⟩; (obtain ⟨a3, c3, rfl, hc3, he3⟩ := hrow3.ents); have bl3 := (bl.ext e2).chg hx3 (by simp; omega); have ba3 := (ba.ext e2).chg hx3 (by simp; omega); have be3 := (be.ext e2).chg hx3 (by simp; omega); (obtain ⟨l0, lf0⟩ := bl3 0 _ rfl); (obtain ⟨q0, qf0⟩ := ba3 0 _ rfl); (obtain ⟨q1, qf1⟩ := ba3 1 _ rfl); (obtain ⟨r0, rf0⟩ := be3 0 _ rfl); have k1 := cell_lt l0; have k2 := cell_lt q0; have k3 := cell_lt r0; have n1 : lb ≠ ab := (by omega); have n2 : lb ≠ eb := (by omega); have n3 : ab ≠ eb := (by omega); have n4 : ab ≠ lb := (by omega); have n5 : eb ≠ lb := (by omega); have n6 : eb ≠ ab := (by omega))
    refine leaves_cons (f := 29) (args := #[.pointer (some ⟨lb, 0, none⟩), .pointer (some ⟨ab, 0, none⟩), .pointer (some ⟨eb, 0, none⟩)]) (by simp) (by simp [go_sem]) ?_
    refine (rdD_idle ⟨lb, 0, none⟩ ⟨ab, 0, none⟩ ⟨eb, 0, none⟩ _).mono ?_
    rintro e u' w4 ⟨rfl, rfl, hw4⟩
    have c1 : Chg [lb] w3 (w3.setCell ⟨lb, 0, none⟩ (.slice a3 l.length c3)) := (Chg.refl [lb] w3).setCell _ (.inl (by simp))
    have c2 : Chg [ab] (w3.setCell ⟨lb, 0, none⟩ (.slice a3 l.length c3)) (((w3.setCell ⟨lb, 0, none⟩ (.slice a3 l.length c3)).setCell ⟨ab, 0, none⟩ (.int .i64 0)).setCell ⟨ab, 1, none⟩ (.int .i64 0)) := ((Chg.refl [ab] _).setCell _ (.inl (by simp))).setCell _ (.inl (by simp))
    have c3' : Chg [eb] (((w3.setCell ⟨lb, 0, none⟩ (.slice a3 l.length c3)).setCell ⟨ab, 0, none⟩ (.int .i64 0)).setCell ⟨ab, 1, none⟩ (.int .i64 0)) ((((w3.setCell ⟨lb, 0, none⟩ (.slice a3 l.length c3)).setCell ⟨ab, 0, none⟩ (.int .i64 0)).setCell ⟨ab, 1, none⟩ (.int .i64 0)).setCell ⟨eb, 0, none⟩ (.int .i64 0)) := (Chg.refl [eb] _).setCell _ (.inl (by simp))
    have p1 := ((bl3.set (i := 0) (by simp) (.slice a3 l.length c3)).chg c2 (by simpa using n1)).chg c3' (by simpa using n2)
    have p2 := (((ba3.chg c1 (by simpa using n4)).set (i := 0) (by simp) (.int .i64 0)).set (i := 1) (by simp) (.int .i64 0)).chg c3' (by simpa using n3)
    have p3 := ((be3.chg c1 (by simpa using n5)).chg c2 (by simpa using n6)).set (i := 0) (by simp) (.int .i64 0)
    rw [← hw4] at c3' p1 p2 p3
    have t0 := (p1 0 _ rfl).1
    have t1 := (p2 0 _ rfl).1
    have t2 := (p2 1 _ rfl).1
    have t3 := (p3 0 _ rfl).1
    have hfin : ReadP (readP files s) w (.returned (.tuple #[.slice a3 l.length c3, .agg #[.int .i64 0, .int .i64 0], .int .i64 0])) w4 := by
      rw [HE.out]
      have hch : Chg [lb, ab, eb] w3 w4 := (c1.mono (by simp)).trans ((c2.mono (by simp)).trans (c3'.mono (by simp)))
      exact ⟨⟨a3, c3, rfl, hc3, Dat.Rows.mono (Dat.Rows.chg he3 hch (fun b hb => by have h1 : V.heap.size ≤ b := hb; simp; omega)) fun b hb _ => (by have h1 : V.heap.size ≤ b := hb; omega)⟩, Chg.ext (e1.trans e2) (((hx3.mono (T := [W.heap.size + 1, W.heap.size, lb, ab, eb]) (by simp)).trans (hch.mono (by simp)))) (by simp; omega)⟩
    simp [Leaves, settle, results, Try.results11, go_sem, t0, t1, t2, t3]
    exact hfin
end Go.Proofs.Ytnclgkdpafhogaa
namespace Go.Proofs.Ytnclgkdpafhogaa
open Go.ChangeShapes Go.WideShapes Go.ChangeAt Go.RowKit
def wfN : ByteArray := ⟨#[102]⟩
def wfT : ByteArray := ⟨#[99, 110, 102, 40, 97, 49, 44, 32, 97, 120, 105, 111, 109, 44, 32, 112, 40, 88, 41, 32, 124, 32, 126, 32, 113, 41, 46, 32, 102, 111, 102, 40, 97, 50, 44, 32, 97, 120, 105, 111, 109, 44, 32, 113, 41, 46]⟩
def wt1 : ByteArray := ⟨#[105, 110, 99, 108, 117, 100, 101, 40, 39, 102, 39, 41, 46, 32, 102, 111, 102, 40, 99, 44, 32, 99, 111, 110, 106, 101, 99, 116, 117, 114, 101, 44, 32, 63, 32, 91, 88, 93, 32, 58, 32, 112, 40, 88, 41, 41, 46]⟩
def wt2 : ByteArray := ⟨#[105, 110, 99, 108, 117, 100, 101, 40, 39, 102, 39, 44, 91, 97, 50, 93, 41, 46]⟩
def wt3 : ByteArray := ⟨#[105, 110, 99, 108, 117, 100, 101, 40, 39, 103, 39, 41, 46]⟩
def wt4 : ByteArray := ⟨#[102, 111, 102, 40, 120, 44, 32, 116, 104, 105, 110, 103, 44, 32, 112, 41, 46]⟩
def wnA2 : ByteArray := ⟨#[97, 50]⟩
def isThree : Out (List Ent) → Bool
  | .ok [a, _, c] => a.cnf && decide (c.role = rConj)
  | _ => false
def isOne : Out (List Ent) → Bool
  | .ok [a] => decide (a.name = wnA2)
  | _ => false
def isFlt (file at' e : Int) : Out (List Ent) → Bool
  | .flt t => decide (t.file = file) && (decide (t.at' = at') && decide (t.e = e))
  | _ => false
theorem isThree_of {r : Out (List Ent)} (h : isThree r = true) : ∃ a b c, r = .ok [a, b, c] ∧ a.cnf = true ∧ c.role = rConj := by
  match r, h with
  | .ok [a, b, c], h =>
    unfold isThree at h
    rw [Bool.and_eq_true, decide_eq_true_eq] at h
    exact ⟨a, b, c, rfl, h.1, h.2⟩
theorem isOne_of {r : Out (List Ent)} (h : isOne r = true) : ∃ a, r = .ok [a] ∧ a.name = wnA2 := by
  match r, h with
  | .ok [a], h =>
    unfold isOne at h
    rw [decide_eq_true_eq] at h
    exact ⟨a, rfl, h⟩
theorem isFlt_of {file at' e : Int} {r : Out (List Ent)} (h : isFlt file at' e r = true) : r = .flt ⟨file, at', e⟩ := by
  match r, h with
  | .flt ⟨f, a, b⟩, h =>
    unfold isFlt at h
    simp only [Bool.and_eq_true, decide_eq_true_eq] at h
    obtain ⟨h1, h2, h3⟩ := h
    rw [h1, h2, h3]
theorem wt1_says : isThree (readP [(wfN, wfT)] wt1) = true := by kernel_rfl
theorem wt2_says : isOne (readP [(wfN, wfT)] wt2) = true := by kernel_rfl
theorem wt3_says : isFlt (-1) 8 244 (readP [(wfN, wfT)] wt3) = true := by kernel_rfl
theorem wt4_says : isFlt (-1) 7 241 (readP [] wt4) = true := by kernel_rfl
theorem one_file (w : World) : IsFiles (fun _ => True) (w.alloc (.cells #[.string wfN, .string wfT] 44)) (some ⟨w.heap.size, 0, none⟩) [(wfN, wfT)] := by
  have hb := own_alloc w #[.string wfN, .string wfT] 44
  refine ⟨w.heap.size, 0, [.string wfN, .string wfT], rfl, trivial, by simp, fun i v hi => ?_, ⟨⟨rfl, by decide⟩, ⟨rfl, by decide⟩, trivial⟩, trivial⟩
  have := (hb i v hi).1
  simpa using this
theorem ents_at {P : Nat → Prop} {w : World} {a : Option Addr} {l : List Ent} (h : IsEnts P w a l) {i : Nat} (hi : i < l.length) : ∃ b o, a = some ⟨b, o, none⟩ ∧ w.cell? ⟨b, o + i * 7, none⟩ = some (.bool l[i].cnf) ∧ w.cell? ⟨b, o + i * 7 + 1, none⟩ = some (.string l[i].name) ∧ w.cell? ⟨b, o + i * 7 + 2, none⟩ = some (.string l[i].role) := by
  obtain ⟨b, o, x0, x1, x2, x3, rfl, -, ⟨g1, g2, g3⟩, -⟩ := h.look hi
  exact ⟨b, o, rfl, g1, g2, g3⟩
set_option maxHeartbeats 4000000 in
set_option maxRecDepth 100000 in
theorem wakes14_any (w : World) (m : Int) (hm : w.cell? ⟨0, 0, none⟩ = some (.int .i64 m)) : Calls Try.prog 12 #[] w fun e w' => e = .returned (.bool true) ∧ Ext w w' := by
  obtain ⟨W, hW⟩ : ∃ W, W = w.alloc (.cells #[.string wfN, .string wfT] 44) := ⟨_, rfl⟩
  have hx : Ext w W := by rw [hW]; exact ext_alloc _ _
  have hf : IsFiles (fun _ => True) W (some ⟨w.heap.size, 0, none⟩) [(wfN, wfT)] := by rw [hW]; exact one_file w
  have hfs : ∀ f ∈ [(wfN, wfT)], f.2.size ≤ 1048576 := by intro f hf; rw [List.mem_singleton] at hf; subst hf; decide
  have P1 := Lib.hid (fun w' (hx' : Ext W w') => (readP_any (files := [(wfN, wfT)]) (by decide) hfs wt1 (by decide) (hf.ext hx') (fc := 1) (by decide) (hx'.cell (hx.cell hm)) : Calls Try.prog 11 #[.string wt1, .slice (some ⟨w.heap.size, 0, none⟩) 1 1] w' (ReadP (readP [(wfN, wfT)] wt1) w')))
  have P2 := Lib.hid (fun w' (hx' : Ext W w') => (readP_any (files := [(wfN, wfT)]) (by decide) hfs wt2 (by decide) (hf.ext hx') (fc := 1) (by decide) (hx'.cell (hx.cell hm)) : Calls Try.prog 11 #[.string wt2, .slice (some ⟨w.heap.size, 0, none⟩) 1 1] w' (ReadP (readP [(wfN, wfT)] wt2) w')))
  have P3 := Lib.hid (fun w' (hx' : Ext W w') => (readP_any (files := [(wfN, wfT)]) (by decide) hfs wt3 (by decide) (hf.ext hx') (fc := 1) (by decide) (hx'.cell (hx.cell hm)) : Calls Try.prog 11 #[.string wt3, .slice (some ⟨w.heap.size, 0, none⟩) 1 1] w' (ReadP (readP [(wfN, wfT)] wt3) w')))
  have P4 := Lib.hid (fun w' (hx' : Ext W w') => (readP_any (files := []) (by decide) (by simp) wt4 (by decide) (P := fun _ => True) (w := w') (fa := none) trivial (fc := 0) (by decide) (hx'.cell (hx.cell hm)) : Calls Try.prog 11 #[.string wt4, .slice none 0 0] w' (ReadP (readP [] wt4) w')))
  obtain ⟨a, b, c, h1, ha, hc⟩ := isThree_of wt1_says
  obtain ⟨d, h2, hd⟩ := isOne_of wt2_says
  have h3 := isFlt_of wt3_says
  have h4 := isFlt_of wt4_says
  rw [h1] at P1
  rw [h2] at P2
  rw [h3] at P3
  rw [h4] at P4
  unfold ReadP at P1 P2 P3 P4
  simp only [List.length_cons, List.length_nil, Nat.zero_add, Nat.reduceAdd] at P1 P2 P3 P4
  unfold wt1 at P1
  unfold wt2 at P2
  unfold wt3 at P3
  unfold wt4 at P4
  unfold wfN wfT at hW
  have qa : (c.role.toList == [99, 111, 110, 106, 101, 99, 116, 117, 114, 101]) = true := by rw [hc, Go.ByteArray.toList_eq]; rfl
  have qd : (d.name.toList == [97, 50]) = true := by rw [hd, Go.ByteArray.toList_eq]; rfl
  have hsp : ∀ w, (binOp .eql 40 (.agg #[.int .i64 (-1), .int .i64 8]) (.agg #[.int .i64 (-1), .int .i64 8])).run Try.prog w = .ok (.bool true) w := fun w => by kernel_rfl
  clear h1 h2 h3 h4 hc hd hfs hf
  go_enter Try.func12, Try.ntmps12
  go_upto_region 2 with fail
  rw [← hW]
  clear hW
  go_upto_region 6 with (first
    | (go_at_call 11; with_reducible refine (P4.out _ hxC).mono ?_; rintro e w4 ⟨rfl, hx4⟩; have hxD := (hxC.trans hx4).alloc (.cells #[.int .i64 (-1), .int .i64 7] 40); (have tD := (own2 w4 (.int .i64 (-1)) (.int .i64 7) 40)); (have hx4' := hx4.trans (ext_alloc w4 (.cells #[.int .i64 (-1), .int .i64 7] 40))))
    | (go_at_call 11; with_reducible refine (P3.out _ hxB).mono ?_; rintro e w3 ⟨rfl, hx3⟩; have hxC := (hxB.trans hx3).alloc (.cells #[.int .i64 (-1), .int .i64 8] 40); (have tC := (own2 w3 (.int .i64 (-1)) (.int .i64 8) 40)); (have hx3' := hx3.trans (ext_alloc w3 (.cells #[.int .i64 (-1), .int .i64 8] 40))))
    | (go_at_call 11; with_reducible refine (P2.out _ hxA).mono ?_; rintro e w2 ⟨⟨a2, c2, rfl, hc2, he2⟩, hx2⟩; have hxB := (hxA.trans hx2).alloc (.cells #[.int .i64 0, .int .i64 0] 40); (have hx2' := hx2.trans (ext_alloc w2 (.cells #[.int .i64 0, .int .i64 0] 40))))
    | (go_at_call 11; with_reducible refine (P1.out _ (Below.refl _ _)).mono ?_; rintro e w1 ⟨⟨a1, c1, rfl, hc1, he1⟩, hx1⟩; have hxA := hx1.alloc (.cells #[.int .i64 0, .int .i64 0] 40)))
  obtain ⟨b1, o1, rfl, r0, -, -⟩ := ents_at he1 (i := 0) (by simp)
  obtain ⟨b1', o1', he, -, -, s2⟩ := ents_at he1 (i := 2) (by simp)
  injection he with he; injection he with f1 f2 _
  subst f1; subst f2
  obtain ⟨b2, o2, rfl, -, u1, -⟩ := ents_at he2 (i := 0) (by simp)
  simp only [List.getElem_cons_zero, List.getElem_cons_succ, Nat.zero_mul, Nat.add_zero] at r0 s2 u1
  rw [ha] at r0
  have hyA : Ext w1 w4 := (ext_alloc w1 (.cells #[.int .i64 0, .int .i64 0] 40)).trans (hx2'.trans (hx3'.trans hx4))
  replace r0 := (hyA.trans (ext_alloc w4 (.cells #[.int .i64 (-1), .int .i64 7] 40))).cell r0
  replace s2 := (hyA.trans (ext_alloc w4 (.cells #[.int .i64 (-1), .int .i64 7] 40))).cell s2
  replace u1 := ((ext_alloc w2 (.cells #[.int .i64 0, .int .i64 0] 40)).trans (hx3'.trans hx4')).cell u1
  obtain ⟨t0, -⟩ := (tC.ext hx4') 0 _ rfl
  obtain ⟨t1, -⟩ := (tC.ext hx4') 1 _ rfl
  obtain ⟨v0, -⟩ := tD 0 _ rfl
  obtain ⟨v1, -⟩ := tD 1 _ rfl
  have l1 := cell_lt r0
  have l2 := cell_lt u1
  have l3 := cell_lt t0
  have l4 := cell_lt v0
  clear he1 he2 tC tD
  go_wp2_with fail
  go_ret
  exact ⟨rfl, hx.trans hxD⟩
end Go.Proofs.Ytnclgkdpafhogaa
namespace Go.Proofs.Ytnclgkdpafhogaa
open Go.ChangeShapes Go.WideShapes Go.ChangeAt Go.RowKit
theorem one_fileS (w : World) (s : ByteArray) (hs : s.size ≤ 1073741824) : IsFiles (fun _ => True) (w.alloc (.cells #[.string sThere, .string s] 44)) (some ⟨w.heap.size, 0, none⟩) [(sThere, s)] := by
  have hb := own_alloc w #[.string sThere, .string s] 44
  refine ⟨w.heap.size, 0, [.string sThere, .string s], rfl, trivial, by simp, fun i v hi => ?_, ⟨⟨rfl, (by decide : sThere.size ≤ 1073741824)⟩, ⟨rfl, hs⟩, trivial⟩, trivial⟩
  have := (hb i v hi).1
  simpa using this
theorem out_ways (x : Out (List Ent)) : (∃ l, x = .ok l) ∨ ∃ t, x = .flt t := by
  cases x with
  | ok l => exact .inl ⟨l, rfl⟩
  | flt t => exact .inr ⟨t, rfl⟩
set_option maxHeartbeats 4000000 in
set_option maxRecDepth 100000 in
theorem tptpIncluded_any (s : ByteArray) (hs : s.size ≤ 1048576) (w : World) (m : Int) (hm : w.cell? ⟨0, 0, none⟩ = some (.int .i64 m)) :
    Calls Try.prog 4 #[.string s] w fun e w' => e = .returned (.bool true) ∧ Ext w w' := by
  have HW := Lib.hid (fun w' (hx : Ext w w') => wakes14_any w' m (hx.cell hm))
  have P1 := Lib.hid (readP_any (files := []) (by decide) (by simp) s hs (P := fun _ => True) (w := w) (fa := none) trivial (fc := 0) (by decide) hm : Calls Try.prog 11 #[.string s, .slice none 0 0] w (ReadP (readP [] s) w))
  have P2 := Lib.hid (fun (v : World) (x y : Int) (hv : Ext w v) => by
    have e : (v.alloc (.cells #[.int .i64 x, .int .i64 y] 40)).heap.size = v.heap.size + 1 := by simp
    have hS := hv.alloc (.cells #[.int .i64 x, .int .i64 y] 40)
    have q := (readP_any (files := [(sThere, s)]) (by simp) (fun f hf => by rw [List.mem_singleton] at hf; subst hf; exact hs) incT (by decide) (one_fileS (v.alloc (.cells #[.int .i64 x, .int .i64 y] 40)) s (by omega)) (fc := 1) (by simp) ((ext_alloc _ _).cell (hS.cell hm)))
    rw [e] at q
    exact (q : Calls Try.prog 11 #[.string incT, .slice (some ⟨v.heap.size + 1, 0, none⟩) 1 1] ((v.alloc (.cells #[.int .i64 x, .int .i64 y] 40)).alloc (.cells #[.string sThere, .string s] 44)) (ReadP (readP [(sThere, s)] incT) ((v.alloc (.cells #[.int .i64 x, .int .i64 y] 40)).alloc (.cells #[.string sThere, .string s] 44)))))
  simp only [List.length_nil] at P1
  simp only [List.length_cons, List.length_nil, Nat.zero_add] at P2
  have hsp := spot_eq
  have hsm := fun l h => readP_small (files := []) (s := s) (l := l) h
  have hin := included s
  unfold ReadP at P1 P2
  rcases hin with ⟨l, h1, h2⟩ | ⟨⟨tf, ta, te⟩, h1, h2⟩
  · have HSM := Lib.hid (hsm l h1)
    rw [h1] at P1
    rw [h2] at P2
    clear h1 h2 hsm
    unfold incT sThere at P2
    go_enter Try.func4, Try.ntmps4
    go_upto_region 5 with (first
      | (go_at_call 11; with_reducible refine (P2.out w1 _ _ hx1).mono ?_; rintro e w2 ⟨⟨a2, c2, rfl, hc2, he2⟩, hx2'⟩; have hx2 := (ext_alloc _ _).trans hx2'; have hxB := (hxA.trans hx2).alloc (.cells #[.int .i64 0, .int .i64 0] 40); (have tB := own_alloc w2 #[.int .i64 0, .int .i64 0] 40); (have hx2n := ext_alloc w2 (.cells #[.int .i64 0, .int .i64 0] 40)))
      | (go_at_call 11; with_reducible refine (P1.out).mono ?_; rintro e w1 ⟨⟨a1, c1, rfl, hc1, he1⟩, hx1⟩; have hxA := hx1.alloc (.cells #[.int .i64 0, .int .i64 0] 40); (have tA := own_alloc w1 #[.int .i64 0, .int .i64 0] 40)))
    obtain ⟨a0, -⟩ := (tA.ext (hx2.trans hx2n)) 0 _ rfl
    obtain ⟨a1', -⟩ := (tA.ext (hx2.trans hx2n)) 1 _ rfl
    obtain ⟨b0, -⟩ := tB 0 _ rfl
    obtain ⟨b1, -⟩ := tB 1 _ rfl
    have l1 := cell_lt a0
    have l2 := cell_lt b0
    have HS := Lib.hid (same14_any (l := l) (by have := HSM.out.2; omega) (fun x hx => by have := HSM.out.1 x hx; omega) (he1.ext ((ext_alloc w1 (.cells #[.int .i64 0, .int .i64 0] 40)).trans (hx2.trans hx2n))) (he2.ext hx2n) (c := c1) (d := c2))
    clear tA tB he1 he2
    go_wp2_with (first
      | (go_at_call 12; refine (HW.out _ (hxB.trans hx4)).mono ?_; rintro e w6 ⟨rfl, hx6⟩)
      | (go_at_call 13; refine (HS.out).mono ?_; rintro e w5 ⟨rfl, hx4⟩; (have a0x := hx4.cell a0); (have a1x := hx4.cell a1'); (have b0x := hx4.cell b0); (have b1x := hx4.cell b1)))
    go_ret
    exact ⟨rfl, (hxB.trans hx4).trans hx6⟩
  · rw [h1] at P1
    simp only at h2
    by_cases h244 : te = 244
    · subst h244
      clear h2 h1
      rcases out_ways (readP [(sThere, s)] incT) with ⟨l2, h3⟩ | ⟨⟨uf, ua, ue⟩, h3⟩
      · rw [h3] at P2
        clear h3 hsm
        simp only at P1 P2
        unfold incT sThere at P2
        go_enter Try.func4, Try.ntmps4
        go_wp2_with (first
          | (go_at_call 12; refine (HW.out _ hxB).mono ?_; rintro e w6 ⟨rfl, hx6⟩)
          | (go_at_call 11; with_reducible refine (P2.out w1 _ _ hx1).mono ?_; rintro e w2 ⟨⟨a2, c2, rfl, hc2, he2⟩, hx2'⟩; have hx2 := (ext_alloc _ _).trans hx2'; have hxB := (hxA.trans hx2).alloc (.cells #[.int .i64 0, .int .i64 0] 40); (have tB := own_alloc w2 #[.int .i64 0, .int .i64 0] 40); (have hx2n := ext_alloc w2 (.cells #[.int .i64 0, .int .i64 0] 40)))
          | (go_at_call 11; with_reducible refine (P1.out).mono ?_; rintro e w1 ⟨rfl, hx1⟩; have hxA := hx1.alloc (.cells #[.int .i64 tf, .int .i64 ta] 40); (have tA := own_alloc w1 #[.int .i64 tf, .int .i64 ta] 40)))
        go_ret
        exact ⟨rfl, hxB.trans hx6⟩
      · rw [h3] at P2
        clear h3 hsm
        simp only at P1 P2
        unfold incT sThere at P2
        go_enter Try.func4, Try.ntmps4
        go_wp2_with (first
          | (go_at_call 12; refine (HW.out _ hxB).mono ?_; rintro e w6 ⟨rfl, hx6⟩)
          | (go_at_call 11; with_reducible refine (P2.out w1 _ _ hx1).mono ?_; rintro e w2 ⟨rfl, hx2'⟩; have hx2 := (ext_alloc _ _).trans hx2'; have hxB := (hxA.trans hx2).alloc (.cells #[.int .i64 uf, .int .i64 ua] 40); (have tB := own_alloc w2 #[.int .i64 uf, .int .i64 ua] 40); (have hx2n := ext_alloc w2 (.cells #[.int .i64 uf, .int .i64 ua] 40)))
          | (go_at_call 11; with_reducible refine (P1.out).mono ?_; rintro e w1 ⟨rfl, hx1⟩; have hxA := hx1.alloc (.cells #[.int .i64 tf, .int .i64 ta] 40); (have tA := own_alloc w1 #[.int .i64 tf, .int .i64 ta] 40)))
        go_ret
        exact ⟨rfl, hxB.trans hx6⟩
    by_cases h245 : te = 245
    · subst h245
      clear h2 h1
      rcases out_ways (readP [(sThere, s)] incT) with ⟨l2, h3⟩ | ⟨⟨uf, ua, ue⟩, h3⟩
      · rw [h3] at P2
        clear h3 hsm
        simp only at P1 P2
        unfold incT sThere at P2
        go_enter Try.func4, Try.ntmps4
        go_wp2_with (first
          | (go_at_call 12; refine (HW.out _ hxB).mono ?_; rintro e w6 ⟨rfl, hx6⟩)
          | (go_at_call 11; with_reducible refine (P2.out w1 _ _ hx1).mono ?_; rintro e w2 ⟨⟨a2, c2, rfl, hc2, he2⟩, hx2'⟩; have hx2 := (ext_alloc _ _).trans hx2'; have hxB := (hxA.trans hx2).alloc (.cells #[.int .i64 0, .int .i64 0] 40); (have tB := own_alloc w2 #[.int .i64 0, .int .i64 0] 40); (have hx2n := ext_alloc w2 (.cells #[.int .i64 0, .int .i64 0] 40)))
          | (go_at_call 11; with_reducible refine (P1.out).mono ?_; rintro e w1 ⟨rfl, hx1⟩; have hxA := hx1.alloc (.cells #[.int .i64 tf, .int .i64 ta] 40); (have tA := own_alloc w1 #[.int .i64 tf, .int .i64 ta] 40)))
        go_ret
        exact ⟨rfl, hxB.trans hx6⟩
      · rw [h3] at P2
        clear h3 hsm
        simp only at P1 P2
        unfold incT sThere at P2
        go_enter Try.func4, Try.ntmps4
        go_wp2_with (first
          | (go_at_call 12; refine (HW.out _ hxB).mono ?_; rintro e w6 ⟨rfl, hx6⟩)
          | (go_at_call 11; with_reducible refine (P2.out w1 _ _ hx1).mono ?_; rintro e w2 ⟨rfl, hx2'⟩; have hx2 := (ext_alloc _ _).trans hx2'; have hxB := (hxA.trans hx2).alloc (.cells #[.int .i64 uf, .int .i64 ua] 40); (have tB := own_alloc w2 #[.int .i64 uf, .int .i64 ua] 40); (have hx2n := ext_alloc w2 (.cells #[.int .i64 uf, .int .i64 ua] 40)))
          | (go_at_call 11; with_reducible refine (P1.out).mono ?_; rintro e w1 ⟨rfl, hx1⟩; have hxA := hx1.alloc (.cells #[.int .i64 tf, .int .i64 ta] 40); (have tA := own_alloc w1 #[.int .i64 tf, .int .i64 ta] 40)))
        go_ret
        exact ⟨rfl, hxB.trans hx6⟩
    obtain ⟨⟨hf, hne⟩, h3⟩ := h2.resolve_left h244
    subst hf
    rw [h3] at P2
    have q4 : (te == 244) = false := by rw [beq_eq_false_iff_ne]; exact h244
    have q5 : (te == 245) = false := by rw [beq_eq_false_iff_ne]; exact h245
    have q0 : (te == 0) = false := by rw [beq_eq_false_iff_ne]; exact hne
    have q0' : (te != 0) = true := by rw [bne_iff_ne]; exact hne
    have HS := Lib.hid (fun (S : World) => same14_any (l := []) (by simp) (fun x hx => by cases hx) (w := S) (a := none) (b := none) (c := 0) (d := 0) (P := fun _ => True) (Q := fun _ => True) trivial trivial)
    simp only [List.length_nil] at HS
    clear h1 h2 h3 hsm h244 h245 hne
    simp only at P1 P2
    unfold incT sThere at P2
    go_enter Try.func4, Try.ntmps4
    go_upto_region 5 with (first
      | (go_at_call 11; with_reducible refine (P2.out w1 _ _ hx1).mono ?_; rintro e w2 ⟨rfl, hx2'⟩; have hx2 := (ext_alloc _ _).trans hx2'; have hxB := (hxA.trans hx2).alloc (.cells #[.int .i64 0, .int .i64 ta] 40); (have tB := own_alloc w2 #[.int .i64 0, .int .i64 ta] 40); (have hx2n := ext_alloc w2 (.cells #[.int .i64 0, .int .i64 ta] 40)))
      | (go_at_call 11; with_reducible refine (P1.out).mono ?_; rintro e w1 ⟨rfl, hx1⟩; have hxA := hx1.alloc (.cells #[.int .i64 (-1), .int .i64 ta] 40); (have tA := own_alloc w1 #[.int .i64 (-1), .int .i64 ta] 40)))
    obtain ⟨a0, -⟩ := (tA.ext (hx2.trans hx2n)) 0 _ rfl
    obtain ⟨a1', -⟩ := (tA.ext (hx2.trans hx2n)) 1 _ rfl
    obtain ⟨b0, -⟩ := tB 0 _ rfl
    obtain ⟨b1, -⟩ := tB 1 _ rfl
    have l1 := cell_lt a0
    have l2 := cell_lt b0
    clear tA tB
    go_wp2_with (first
      | (go_at_call 12; refine (HW.out _ (hxB.trans hx4)).mono ?_; rintro e w6 ⟨rfl, hx6⟩)
      | (go_at_call 13; refine (HS.out _).mono ?_; rintro e w5 ⟨rfl, hx4⟩; (have a0x := hx4.cell a0); (have a1x := hx4.cell a1'); (have b0x := hx4.cell b0); (have b1x := hx4.cell b1)))
    go_ret
    exact ⟨rfl, (hxB.trans hx4).trans hx6⟩
end Go.Proofs.Ytnclgkdpafhogaa
