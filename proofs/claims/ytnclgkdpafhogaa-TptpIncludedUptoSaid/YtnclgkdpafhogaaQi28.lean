/- Plain: how many entries a text has; which files are not open. No condition.
Plain: a text that is put into a file, and included, is read as the text itself. No condition.
Plain: what is read is small. No condition.
The law's Same on two rows that hold the same entries; long. Condition: at most 1048576 entries, each with a formula of at most 4194304 parts. -/
import Derived.Test.YtnclgkdpafhogaaQi27
import Derived.Test.YtnclgkdpafhogaaQi26
import Derived.Test.YtnclgkdpafhogaaQi14
namespace Go.Proofs.Ytnclgkdpafhogaa
theorem incR_len {rd : Nat → Nat → Nat → Out (List Ent × Nat)} {files : List (ByteArray × ByteArray)} {opn : Nat → Bool} {l : List Tok} {file : Int} {ahead cnt : Nat} (hrd : ∀ (i n c : Nat) (x : List Ent × Nat), n ≤ 200 → rd i n c = .ok x → n + x.1.length ≤ 200) {out l' : List Ent} {c' : Nat} {r r' : List Tok} (ho : ahead + out.length ≤ 200) (hy : incR rd files opn l file (ahead + out.length) cnt r = .ok ((l', c'), r')) : ahead + (out ++ l').length ≤ 200 := by
  unfold incR at hy
  cases hh : incHead r with
  | bad k => rw [hh] at hy; cases hy
  | ok z k =>
    rw [hh, Rd.out_ok] at hy
    split at hy
    · cases hy
    · split at hy
      · cases hy
      · split at hy
        · cases hy
        · obtain ⟨q, hq, hy⟩ := Out.bind_eq_ok hy
          obtain ⟨m, hm, hy⟩ := Out.bind_eq_ok hy
          injection hy with hy
          injection hy with hy _
          injection hy with hy _
          subst hy
          have h5 := hrd _ _ _ _ ho hq
          have h6 : m.length ≤ q.1.length := by
            unfold chosen at hm
            split at hm
            · injection hm with hm; subst hm; exact Nat.le_refl _
            · split at hm
              · cases hm
              · injection hm with hm; subst hm; exact List.length_filter_le _ _
          simp; omega
theorem itemsF_len {rd : Nat → Nat → Nat → Out (List Ent × Nat)} {files : List (ByteArray × ByteArray)} {opn : Nat → Bool} {l : List Tok} {file : Int} {ahead : Nat} (hE : Ends l) (hrd : ∀ (i n c : Nat) (x : List Ent × Nat), n ≤ 200 → rd i n c = .ok x → n + x.1.length ≤ 200) :
    ∀ (f : Nat) (ks : List Tok) (out : List Ent) (cnt : Nat) (x : List Ent × Nat), ks <:+ l → Ends ks → ahead + out.length ≤ 200 → itemsF rd files opn l file ahead f ks out cnt = .ok x → ahead + x.1.length ≤ 200
  | 0, _, _, _, _, _, _, _, h => by cases h
  | f + 1, ks, out, cnt, x, hks, hke, ho, h => by
    unfold itemsF at h
    split at h
    · injection h with h; subst h; exact ho
    · rename_i h7
      have hks2 : ∃ t r, ks = t :: r ∧ Ends r := by
        cases ks with
        | nil => exact absurd rfl h7
        | cons t r => exact ⟨t, r, rfl, hke.tail h7⟩
      obtain ⟨t, r, rfl, her⟩ := hks2
      have hr : r <:+ l := (List.suffix_cons t r).trans hks
      split at h
      · obtain ⟨y, hy, h⟩ := Out.bind_eq_ok h
        obtain ⟨e, r'⟩ := y
        obtain ⟨h1, h2, h3, h4⟩ := entR_ok hE hr her hy
        exact itemsF_len hE hrd f r' (out ++ [e]) cnt x (h1.trans hr) h3 (by simp; omega) h
      · split at h
        · obtain ⟨y, hy, h⟩ := Out.bind_eq_ok h
          obtain ⟨⟨l', c'⟩, r'⟩ := y
          obtain ⟨h1, h2, h3⟩ := incR_ok her hy
          refine itemsF_len hE hrd f r' (out ++ l') c' x (h1.trans hr) h3 ?_ h
          simp only [List.tail_cons] at hy
          exact incR_len hrd ho hy
        · cases h
theorem readF_len {files : List (ByteArray × ByteArray)} : ∀ (d : Nat) (opn : Nat → Bool) (file : Int) (s : ByteArray) (ahead cnt : Nat) (x : List Ent × Nat), ahead ≤ 200 → readF files d opn file s ahead cnt = .ok x → ahead + x.1.length ≤ 200
  | 0, _, _, _, _, _, _, _, h => by cases h
  | d + 1, opn, file, s, ahead, cnt, x, ha, h => by
    unfold readF at h
    split at h
    · cases h
    · rename_i h0
      have hE := cutS_ends (s := s) (Decidable.not_not.1 h0)
      exact itemsF_len hE (fun i n c x hn hx => readF_len d _ _ _ n c x hn hx) _ _ [] cnt x (List.suffix_refl _) hE (by simpa using ha) h
/-- how many files are not open -/
def shut (n : Nat) (opn : Nat → Bool) : Nat := (List.range n).countP fun i => !opn i
theorem countP_lt {α : Type} {p q : α → Bool} : ∀ {l : List α}, (∀ x ∈ l, p x = true → q x = true) → (∃ x ∈ l, q x = true ∧ p x = false) → l.countP p < l.countP q
  | [], _, h => by obtain ⟨x, hx, -⟩ := h; cases hx
  | a :: l, hpq, h => by
    have hmono : l.countP p ≤ l.countP q := List.countP_mono_left fun x hx => hpq x (by simp [hx])
    obtain ⟨x, hx, hq, hp⟩ := h
    rw [List.countP_cons, List.countP_cons]
    rcases List.mem_cons.1 hx with rfl | hx
    · rw [hp, hq]; simp; omega
    · have := countP_lt (l := l) (fun x hx => hpq x (by simp [hx])) ⟨x, hx, hq, hp⟩
      cases hpa : p a with
      | false => simp; split <;> omega
      | true => rw [hpq a (by simp) hpa]; simp; omega
theorem shut_lt {n i : Nat} {opn : Nat → Bool} (hi : i < n) (ho : opn i = false) : shut n (fun k => if k = i then true else opn k) < shut n opn := by
  unfold shut
  refine countP_lt (fun x _ h => ?_) ⟨i, by simpa using hi, by simp [ho], by simp⟩
  by_cases hx : x = i
  · subst hx; simp at h
  · simpa [hx] using h
theorem shut_le (n : Nat) (opn : Nat → Bool) : shut n opn ≤ n := by
  unfold shut
  have := List.countP_le_length (p := fun i => !opn i) (l := List.range n)
  simpa using this
theorem opn_eq (opn : Nat → Bool) (i : Nat) : (fun k => decide (k = i) || opn k) = fun k => if k = i then true else opn k := by
  funext k
  by_cases hk : k = i <;> simp [hk]
end Go.Proofs.Ytnclgkdpafhogaa
namespace Go.Proofs.Ytnclgkdpafhogaa
def Out.to {α : Type} (g : Int) : Out α → Out α
  | .ok x => .ok x
  | .flt t => .flt ⟨g, t.at', t.e⟩
theorem entR_to (l : List Tok) (file g : Int) (cnf : Bool) (fr : Int) (n : Nat) (ks : List Tok) : entR l g cnf fr n ks = (entR l file cnf fr n ks).to g := by
  unfold entR
  cases entHead ks with
  | bad r => rfl
  | ok h r =>
    simp only [Rd.out_ok]
    split
    · rfl
    · split
      · rfl
      · generalize entEnd _ = z
        cases z with
        | bad r => rfl
        | ok u r =>
          simp only [Rd.out_ok]
          split
          · rfl
          · split <;> rfl
theorem entR_file {l : List Tok} {file : Int} {cnf : Bool} {fr : Int} {n : Nat} {ks : List Tok} {t : Flt} (h : entR l file cnf fr n ks = .flt t) : t.file = file := by
  have h1 := entR_to l file file cnf fr n ks
  rw [h] at h1
  injection h1 with h1
  rw [h1]
theorem entR_ne {l : List Tok} {file : Int} {cnf : Bool} {fr : Int} {n : Nat} {ks : List Tok} {t : Flt} (h : entR l file cnf fr n ks = .flt t) : t.e ≠ 0 := by
  unfold entR at h
  cases hh : entHead ks with
  | bad r => rw [hh] at h; injection h with h; subst h; exact (by decide : (240 : Int) ≠ 0)
  | ok y r =>
    rw [hh, Rd.out_ok] at h
    split at h
    · injection h with h; subst h; exact (by decide : (241 : Int) ≠ 0)
    · split at h
      · rename_i h0; injection h with h; subst h; exact h0
      · generalize entEnd _ = z at h
        cases z with
        | bad r => injection h with h; subst h; exact (by decide : (240 : Int) ≠ 0)
        | ok u r =>
          rw [Rd.out_ok] at h
          split at h
          · rename_i h0; injection h with h; subst h; exact h0
          · split at h
            · injection h with h; subst h; exact (by decide : (3 : Int) ≠ 0)
            · cases h
section
variable {l : List Tok} {rd rd' : Nat → Nat → Nat → Out (List Ent × Nat)} {opn opn' : Nat → Bool} {files' : List (ByteArray × ByteArray)}
theorem incR_bare (file : Int) (n : Nat) (ks : List Tok) : ∃ t, incR rd [] opn l file n 0 ks = .flt t ∧ (t.e = 244 ∨ (t.file = file ∧ t.e ≠ 0) ∧ ∀ g n' c', incR rd' files' opn' l g n' c' ks = .flt ⟨g, t.at', t.e⟩) := by
  cases h : incHead ks with
  | bad r => exact ⟨_, incR_head h, .inr ⟨⟨rfl, (by decide : (240 : Int) ≠ 0)⟩, fun g n' c' => incR_head h⟩⟩
  | ok x r =>
    obtain ⟨fn, qat, ns⟩ := x
    exact ⟨_, incR_miss h (by omega) rfl, .inl rfl⟩
theorem items_included (hE : Ends l) : ∀ (f : Nat) (ks : List Tok) (out : List Ent), ks <:+ l → Ends ks → ks.length < f →
    (∃ o, itemsF rd [] opn l (-1) 0 f ks out 0 = .ok (o, 0) ∧ itemsF rd' files' opn' l 0 0 f ks out 1 = .ok (o, 1)) ∨
    (∃ t, itemsF rd [] opn l (-1) 0 f ks out 0 = .flt t ∧ (t.e = 244 ∨ (t.file = -1 ∧ t.e ≠ 0) ∧ itemsF rd' files' opn' l 0 0 f ks out 1 = .flt ⟨0, t.at', t.e⟩))
  | 0, _, _, _, _, hf => absurd hf (Nat.not_lt_zero _)
  | f + 1, ks, out, hks, hke, hf => by
    by_cases h7 : (peekT ks).kind = 7
    · exact .inl ⟨out, by unfold itemsF; rw [if_pos h7], by unfold itemsF; rw [if_pos h7]⟩
    · obtain ⟨t, r, rfl, her⟩ : ∃ t r, ks = t :: r ∧ Ends r := by
        cases ks with
        | nil => exact absurd rfl h7
        | cons t r => exact ⟨t, r, rfl, hke.tail h7⟩
      have hr : r <:+ l := (List.suffix_cons t r).trans hks
      have hlen : r.length < f := by simp at hf; omega
      by_cases h1 : (peekT (t :: r)).kind = 1 ∧ ((peekT (t :: r)).text = sFof ∨ (peekT (t :: r)).text = sCnf)
      · have e1 : ∀ rd files opn file cnt, itemsF rd files opn l file 0 (f + 1) (t :: r) out cnt = (entR l file (decide ((peekT (t :: r)).text = sCnf)) (peekT (t :: r)).at' (0 + out.length) r).bind fun x => itemsF rd files opn l file 0 f x.2 (out ++ [x.1]) cnt := fun rd files opn file cnt => by
          rw [itemsF, if_neg h7, if_pos h1]; rfl
        rw [e1, e1, entR_to l (-1) 0]
        cases hx : entR l (-1) (decide ((peekT (t :: r)).text = sCnf)) (peekT (t :: r)).at' (0 + out.length) r with
        | flt q => exact .inr ⟨q, rfl, .inr ⟨⟨entR_file hx, entR_ne hx⟩, rfl⟩⟩
        | ok x =>
          obtain ⟨x, r'⟩ := x
          obtain ⟨k1, k2, k3, -⟩ := entR_ok hE hr her hx
          exact items_included hE f r' (out ++ [x]) (k1.trans hr) k3 (by omega)
      · by_cases h2 : (peekT (t :: r)).kind = 1 ∧ (peekT (t :: r)).text = sIncl
        · have e1 : ∀ rd files opn file cnt, itemsF rd files opn l file 0 (f + 1) (t :: r) out cnt = (incR rd files opn l file (0 + out.length) cnt r).bind fun x => itemsF rd files opn l file 0 f x.2 (out ++ x.1.1) x.1.2 := fun rd files opn file cnt => by
            rw [itemsF, if_neg h7, if_neg h1, if_pos h2]; rfl
          rw [e1, e1]
          obtain ⟨q, h3, h4⟩ := incR_bare (l := l) (rd := rd) (rd' := rd') (opn := opn) (opn' := opn') (files' := files') (-1) (0 + out.length) r
          rw [h3]
          refine .inr ⟨q, rfl, h4.imp_right fun h4 => ⟨h4.1, ?_⟩⟩
          rw [h4.2]; rfl
        · have e1 : ∀ rd files opn file cnt, itemsF rd files opn l file 0 (f + 1) (t :: r) out cnt = .flt (itemAt l file (t :: r)) := fun rd files opn file cnt => by
            rw [itemsF, if_neg h7, if_neg h1, if_neg h2]
          rw [e1, e1]
          exact .inr ⟨_, rfl, .inr ⟨⟨rfl, (by decide : (240 : Int) ≠ 0)⟩, rfl⟩⟩
end
def sThere : ByteArray := ⟨#[116, 104, 101, 114, 101]⟩
/-- include('there'). -/
def incT : ByteArray := ⟨#[105, 110, 99, 108, 117, 100, 101, 40, 39, 116, 104, 101, 114, 101, 39, 41, 46]⟩
def incToks : List Tok := [⟨1, sIncl, 0⟩, ⟨6, sLpar, 7⟩, ⟨4, sThere, 8⟩, ⟨6, sRpar, 15⟩, ⟨6, sDot, 16⟩, ⟨7, ⟨#[]⟩, 17⟩]
theorem incT_cut : cutS incT = (incToks, 0, 0) := by kernel_rfl
theorem incT_head : incHead incToks.tail = .ok (sThere, 8, none) [⟨7, ⟨#[]⟩, 17⟩] := by kernel_rfl
theorem incT_reads (s : ByteArray) : readP [(sThere, s)] incT = (readF [(sThere, s)] 1 (fun k => decide (k = 0) || false) 0 s 0 1).bind fun x => .ok x.1 := by
  have hf : findF [(sThere, s)] sThere = some 0 := by simp [findF]
  have e1 : readF [(sThere, s)] 2 (fun _ => false) (-1) incT 0 0 = itemsF (fun i n c => readF [(sThere, s)] 1 (fun k => decide (k = i) || false) i (textOf [(sThere, s)] i) n c) [(sThere, s)] (fun _ => false) incToks (-1) 0 7 incToks [] 0 := by
    rw [readF, incT_cut, if_neg (fun h => h rfl)]; rfl
  have e2 : readP [(sThere, s)] incT = (readF [(sThere, s)] 2 (fun _ => false) (-1) incT 0 0).bind fun x => .ok x.1 := rfl
  rw [e2, e1, itemsF, if_neg (by decide), if_neg (by decide), if_pos (by decide), incR_read (i := 0) incT_head (by omega) hf rfl]
  show Out.bind (Out.bind (Out.bind (readF [(sThere, s)] 1 (fun k => decide (k = 0) || false) 0 s 0 1) _) _) _ = _
  cases readF [(sThere, s)] 1 (fun k => decide (k = 0) || false) 0 s 0 1 with
  | flt t => rfl
  | ok x => rfl
/-- what is included is read as it is by itself, its faults stand in the file; or something is missing -/
theorem included (s : ByteArray) : (∃ l, readP [] s = .ok l ∧ readP [(sThere, s)] incT = .ok l) ∨ (∃ t, readP [] s = .flt t ∧ (t.e = 244 ∨ (t.file = -1 ∧ t.e ≠ 0) ∧ readP [(sThere, s)] incT = .flt ⟨0, t.at', t.e⟩)) := by
  rw [incT_reads]
  have e1 : readP [] s = (readF [] 1 (fun _ => false) (-1) s 0 0).bind fun x => .ok x.1 := rfl
  rw [e1, readF, readF]
  by_cases h0 : (cutS s).2.2 = 0
  · rw [if_neg (fun h => h h0), if_neg (fun h => h h0)]
    have hE := cutS_ends (s := s) h0
    rcases items_included (l := (cutS s).1) (rd := fun i n c => readF [] 0 (fun k => decide (k = i) || (fun _ => false) k) i (textOf [] i) n c) (opn := fun _ => false) (files' := [(sThere, s)]) (opn' := fun k => decide (k = 0) || false) (rd' := fun i n c => readF [(sThere, s)] 0 (fun k => decide (k = i) || (fun k => decide (k = 0) || false) k) i (textOf [(sThere, s)] i) n c) hE ((cutS s).1.length + 1) (cutS s).1 [] (List.suffix_refl _) hE (by omega) with ⟨o, h1, h2⟩ | ⟨t, h1, h2⟩
    · rw [h1, h2]
      exact .inl ⟨o, rfl, rfl⟩
    · rw [h1]
      refine .inr ⟨t, rfl, h2.imp_right fun h2 => ⟨h2.1, ?_⟩⟩
      rw [h2.2]; rfl
  · rw [if_pos h0, if_pos h0]
    exact .inr ⟨_, rfl, .inr ⟨⟨rfl, h0⟩, rfl⟩⟩
end Go.Proofs.Ytnclgkdpafhogaa
namespace Go.Proofs.Ytnclgkdpafhogaa
theorem entR_size {l : List Tok} {file : Int} {cnf : Bool} {fr : Int} {n : Nat} {ks r : List Tok} {x : Ent} (hk : ks <:+ l) (h : entR l file cnf fr n ks = .ok (x, r)) : x.form.size ≤ 2 * l.length := by
  unfold entR at h
  cases hh : entHead ks with
  | bad q => rw [hh] at h; cases h
  | ok y q =>
    rw [hh, Rd.out_ok] at h
    have hq : q <:+ l := (suf_ok (entHead_suf ks) hh).trans hk
    split at h
    · cases h
    · split at h
      · cases h
      · rename_i h0
        cases hen : entEnd (l.drop (readS l (l.length - q.length : Nat)).2.1.toNat) with
        | bad z => rw [hen] at h; cases h
        | ok u z =>
          rw [hen, Rd.out_ok] at h
          split at h
          · cases h
          · split at h
            · cases h
            · injection h with h
              injection h with h _
              subst h
              refine readS_size hq (nx := (readS l (l.length - q.length : Nat)).2.1) ?_
              have h1 : (readS l (l.length - q.length : Nat)).2.2 = 0 := Decidable.not_not.1 h0
              rw [← h1]
def Small (l : List Ent) : Prop := ∀ x ∈ l, x.form.size ≤ 16002
theorem chosen_sub {file : Int} {ns : Option (List (ByteArray × Int))} {l l' : List Ent} (h : chosen file ns l = .ok l') : ∀ x ∈ l', x ∈ l := by
  unfold chosen at h
  split at h
  · injection h with h; subst h; exact fun x hx => hx
  · split at h
    · cases h
    · injection h with h; subst h
      exact fun x hx => (List.mem_filter.1 hx).1
theorem incR_small {rd : Nat → Nat → Nat → Out (List Ent × Nat)} {files : List (ByteArray × ByteArray)} {opn : Nat → Bool} {l : List Tok} {file : Int} {n cnt : Nat} (hrd : ∀ (i n c : Nat) (x : List Ent × Nat), rd i n c = .ok x → Small x.1) {l' : List Ent} {c' : Nat} {r r' : List Tok} (hy : incR rd files opn l file n cnt r = .ok ((l', c'), r')) : Small l' := by
  unfold incR at hy
  cases hh : incHead r with
  | bad k => rw [hh] at hy; cases hy
  | ok z k =>
    rw [hh, Rd.out_ok] at hy
    split at hy
    · cases hy
    · split at hy
      · cases hy
      · split at hy
        · cases hy
        · obtain ⟨q, hq, hy⟩ := Out.bind_eq_ok hy
          obtain ⟨m, hm, hy⟩ := Out.bind_eq_ok hy
          injection hy with hy
          injection hy with hy _
          injection hy with hy _
          subst hy
          exact fun x hx => hrd _ _ _ _ hq x (chosen_sub hm x hx)
theorem Small.append {a b : List Ent} (h : Small a) (k : Small b) : Small (a ++ b) := fun x hx => (List.mem_append.1 hx).elim (h x) (k x)
theorem itemsF_small {rd : Nat → Nat → Nat → Out (List Ent × Nat)} {files : List (ByteArray × ByteArray)} {opn : Nat → Bool} {l : List Tok} {file : Int} {ahead : Nat} (hE : Ends l) (hl : l.length ≤ 8001) (hrd : ∀ (i n c : Nat) (x : List Ent × Nat), rd i n c = .ok x → Small x.1) :
    ∀ (f : Nat) (ks : List Tok) (out : List Ent) (cnt : Nat) (x : List Ent × Nat), ks <:+ l → Ends ks → Small out → itemsF rd files opn l file ahead f ks out cnt = .ok x → Small x.1
  | 0, _, _, _, _, _, _, _, h => by cases h
  | f + 1, ks, out, cnt, x, hks, hke, ho, h => by
    unfold itemsF at h
    split at h
    · injection h with h; subst h; exact ho
    · rename_i h7
      obtain ⟨t, r, rfl, her⟩ : ∃ t r, ks = t :: r ∧ Ends r := by
        cases ks with
        | nil => exact absurd rfl h7
        | cons t r => exact ⟨t, r, rfl, hke.tail h7⟩
      have hr : r <:+ l := (List.suffix_cons t r).trans hks
      split at h
      · obtain ⟨y, hy, h⟩ := Out.bind_eq_ok h
        obtain ⟨e, r'⟩ := y
        obtain ⟨h1, h2, h3, h4⟩ := entR_ok hE hr her hy
        refine itemsF_small hE hl hrd f r' (out ++ [e]) cnt x (h1.trans hr) h3 (ho.append fun z hz => ?_) h
        rw [List.mem_singleton] at hz
        subst hz
        have := entR_size hr hy
        omega
      · split at h
        · obtain ⟨y, hy, h⟩ := Out.bind_eq_ok h
          obtain ⟨⟨l', c'⟩, r'⟩ := y
          obtain ⟨h1, h2, h3⟩ := incR_ok her hy
          exact itemsF_small hE hl hrd f r' (out ++ l') c' x (h1.trans hr) h3 (ho.append (incR_small hrd hy)) h
        · cases h
theorem readF_small {files : List (ByteArray × ByteArray)} : ∀ (d : Nat) (opn : Nat → Bool) (file : Int) (s : ByteArray) (ahead cnt : Nat) (x : List Ent × Nat), readF files d opn file s ahead cnt = .ok x → Small x.1
  | 0, _, _, _, _, _, _, h => by cases h
  | d + 1, opn, file, s, ahead, cnt, x, h => by
    have hlen := cutS_len s
    unfold readF at h
    split at h
    · cases h
    · rename_i h0
      have hE := cutS_ends (s := s) (Decidable.not_not.1 h0)
      exact itemsF_small hE (by omega) (fun i n c x hx => readF_small d _ _ _ n c x hx) _ _ [] cnt x (List.suffix_refl _) hE (fun _ h => by cases h) h
theorem readP_small {files : List (ByteArray × ByteArray)} {s : ByteArray} {l : List Ent} (h : readP files s = .ok l) : (∀ x ∈ l, x.form.size ≤ 16002) ∧ l.length ≤ 200 := by
  obtain ⟨x, hx, h⟩ := Out.bind_eq_ok (show (readF files (files.length + 1) (fun _ => false) (-1) s 0 0).bind (fun x => Out.ok x.1) = .ok l from h)
  injection h with h
  subst h
  have := readF_len (files.length + 1) _ _ _ 0 0 x (by omega) hx
  exact ⟨readF_small _ _ _ _ _ _ _ hx, by omega⟩
end Go.Proofs.Ytnclgkdpafhogaa
namespace Go.Proofs.Ytnclgkdpafhogaa
open Go.ChangeShapes Go.WideShapes Go.ChangeAt Go.RowKit
set_option maxHeartbeats 4000000 in
set_option maxRecDepth 100000 in
theorem same14_any {l : List Ent} (hl : l.length ≤ 1048576) (hs : ∀ x ∈ l, x.form.size ≤ 4194304) {P Q : Nat → Prop} {w : World} {a b : Option Addr} {c d : Nat} (ha : IsEnts P w a l) (hb : IsEnts Q w b l) :
    Calls Try.prog 13 #[.slice a l.length c, .slice b l.length d] w fun e w' => e = .returned (.bool true) ∧ Ext w w' := by
  have HA := Lib.hid ha
  have HB := Lib.hid hb
  clear ha hb
  go_enter Try.func13, Try.ntmps13
  go_wp2_with fail
  go_loopw [5] (fun i wr => ∃ k : Nat, k ≤ l.length ∧ i = .int .i64 k ∧ Ext w wr) (fun i _ => l.length - (intOf i).toNat)
  case atStart => exact ⟨0, Nat.zero_le _, rfl, Below.refl _ _⟩
  case round =>
    obtain ⟨k, hkk, rfl, hxr⟩ := hrel
    by_cases hlt : k < l.length
    · obtain ⟨b1, o1, x0, x1, x2, x3, rfl, -, ⟨m0, m1, m2⟩, ⟨m3, m4, m5, m6⟩, hi⟩ := (HA.out.ext hxr).look hlt
      obtain ⟨b2, o2, y0, y1, y2, y3, rfl, -, ⟨n0, n1, n2⟩, ⟨n3, n4, n5, n6⟩, hi'⟩ := (HB.out.ext hxr).look hlt
      have hlt' : (k : Int) < l.length := by omega
      have HS := Lib.hid (fun w' (hx : Ext wr w') => refSame_any l[k].form l[k].form _ _ w' _ _ _ _ _ _ _ _ (hi.2.2.ext hx) (hi'.2.2.ext hx) (hs _ (List.getElem_mem hlt)))
      rw [Fm.same_refl] at HS
      obtain ⟨p1, c1, p2, c2, p3, c3, rfl, rfl, rfl, rfl, -⟩ := hi.2.2.form
      obtain ⟨p1', c1', p2', c2', p3', c3', rfl, rfl, rfl, rfl, -⟩ := hi'.2.2.form
      clear hi hi'
      generalize l[k] = x at *
      go_wp2_with fail
      go_still_tail 48, (by kernel_rfl)
      change wpList _ _ _ _ _ wr.drew
      go_wp2_with (go_at_call 31; refine (HS.out _ (Ext.drew (Below.refl _ _))).mono ?_; rintro e w4 ⟨rfl, hx4⟩)
      go_roundw
      case rel => exact ⟨k + 1, by omega, by go_num, hxr.trans ((Ext.drew (Below.refl _ wr)).trans hx4)⟩
      case measure => simp [intOf]; omega
    · have hlt' : ¬ (k : Int) < l.length := by omega
      go_wp2_with fail
      go_ret
      exact ⟨rfl, hxr⟩
end Go.Proofs.Ytnclgkdpafhogaa
