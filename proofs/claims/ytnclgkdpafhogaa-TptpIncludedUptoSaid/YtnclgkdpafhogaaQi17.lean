/- What a reading of tokens from one of them on says. No condition.
What a text read as a formula gives. No condition.
Plain: which entries may be, and how problems are read. No condition.
The reference's Reader: Term with arguments. Condition: a row of at most 2^30 tokens, not empty.
Rows whose cells are copied; the reference's of. Condition: a row of at most 2^30.
Rows of the call's own whose elements' further cells lie in blocks of a kind; a whole row appended. Condition: at most 8388608 elements.
The reference's literal and Literals. Condition: a row of at most 2^23 arguments.
slices.Clone over texts, formula.Copy. Condition: at most 4194304 parts.
Which texts are roles, of the program and of the reference. No condition.
Rows of texts: a whole row appended to a row of the call's own. Condition: at most 8388608 texts.
Plain: an entry, way by way. No condition.
The program's reader of things: place, stop, name. Condition: a row of at most 2^30 tokens, not empty. -/
import Derived.Test.YtnclgkdpafhogaaQi13
import Derived.Test.YtnclgkdpafhogaaQi7
import Derived.Test.YtnclgkdpafhogaaQi3
import Derived.Test.YtnclgkdpafhogaaQi10
import Derived.Test.YtnclgkdpafhogaaQi15
import Derived.Deep.RegionLaw
import Derived.Deep.LoopGhost
import Derived.Deep.Light
import Derived.Test.YtnclgkdpafhogaaQi16
import Derived.Laws.OwnMore
import Derived.Deep.AppendLies
import Derived.Test.YtnclgkdpafhogaaQi11
import Derived.Test.YtnclgkdpafhogaaQi6
import Derived.Test.YtnclgkdpafhogaaQi9
namespace Go.Proofs.Ytnclgkdpafhogaa
open Go.ChangeShapes Go.WideShapes Go.ChangeAt Go.RowKit
def Fm.zero : Fm := .mk 0 [] [] []
/-- a formula from tokens on: the formula, the place of the next token or of the first one that can't stand there, the error -/
def readS (l : List Tok) (from' : Int) : Fm × Int × Int :=
  if from' < 0 ∨ (l.length : Int) ≤ from' then (Fm.zero, 0, 230)
  else match rForm (l.drop from'.toNat) with
    | .bad r => (Fm.zero, (badAt l r : Nat), 230)
    | .ok f r => if f.check ≠ 0 then (Fm.zero, from', f.check) else (f, (l.length - r.length : Nat), 0)
def ReadSays (r : Fm × Int × Int) (w : World) (e : Ending) (w' : World) : Prop :=
  (∃ v, e = .returned (.tuple #[v, .int .i64 r.2.1, .int .i64 r.2.2]) ∧ isFm' (fun g => w.heap.size ≤ g) w' v r.1) ∧ Ext w w'
theorem fm_zero {P : Nat → Prop} {w : World} : IsFm P w (.int .i64 0) (.slice none 0 0) (.slice none 0 0) (.slice none 0 0) Fm.zero :=
  IsFm.mk' (v := []) (t := []) (l := []) (by decide) (by decide) (Nat.le_refl _) (Nat.le_refl _) (Nat.le_refl _) strs_nil exs_nil fms_nil
theorem ReadSays.mk {r : Fm × Int × Int} {w w' : World} {v : Value} {e : Ending} (h1 : e = .returned (.tuple #[v, .int .i64 r.2.1, .int .i64 r.2.2])) (h2 : isFm' (fun g => w.heap.size ≤ g) w' v r.1) (h3 : Ext w w') : ReadSays r w e w' := ⟨⟨v, h1, h2⟩, h3⟩
theorem drop_suf {l : List Tok} {n : Nat} : l.drop n <:+ l := List.drop_suffix n l
end Go.Proofs.Ytnclgkdpafhogaa
namespace Go.Proofs.Ytnclgkdpafhogaa
open Go.ChangeShapes Go.WideShapes Go.ChangeAt Go.RowKit
def tokOf (l : List Tok) (i : Int) : Tok := (l[i.toNat]?).getD ⟨7, ⟨#[]⟩, 0⟩
theorem tokOf_lt {l : List Tok} {i : Int} (h0 : 0 ≤ i) (h : i < l.length) : tokOf l i = l[i.toNat]'(by omega) := by
  unfold tokOf; rw [List.getElem?_eq_getElem (by omega)]; rfl
theorem cutS_ends {s : ByteArray} (h : (cutS s).2.2 = 0) : Ends (cutS s).1 := by
  unfold cutS at h ⊢
  split at h
  · cases h
  · rename_i hl
    rw [if_neg hl]
    unfold cutAll at h ⊢
    split at h
    · rename_i h0; rw [if_pos h0]; exact cutFrom_ends (Nat.zero_le _) h0
    · rename_i h0; exact absurd h h0
theorem cutS_len (s : ByteArray) : (cutS s).1.length ≤ 8001 := by
  unfold cutS
  split
  · simp
  · rename_i hl
    unfold cutAll
    split
    · have := cutFrom_len (s := s) (Nat.zero_le _); simp only; omega
    · simp
theorem Ends.pos {l : List Tok} (h : Ends l) : 0 < l.length := by obtain ⟨p, t, rfl, -⟩ := h; simp
end Go.Proofs.Ytnclgkdpafhogaa
namespace Go.Proofs.Ytnclgkdpafhogaa
structure Ent where
  cnf : Bool
  name : ByteArray
  role : ByteArray
  form : Fm
def Ent.dat (x : Ent) : List Dat := Dat.bool x.cnf :: Dat.str x.name :: Dat.str x.role :: x.form.dat

def rAxiom : ByteArray := ⟨#[97, 120, 105, 111, 109]⟩
def rHypo : ByteArray := ⟨#[104, 121, 112, 111, 116, 104, 101, 115, 105, 115]⟩
def rDefi : ByteArray := ⟨#[100, 101, 102, 105, 110, 105, 116, 105, 111, 110]⟩
def rAssu : ByteArray := ⟨#[97, 115, 115, 117, 109, 112, 116, 105, 111, 110]⟩
def rLemma : ByteArray := ⟨#[108, 101, 109, 109, 97]⟩
def rTheo : ByteArray := ⟨#[116, 104, 101, 111, 114, 101, 109]⟩
def rCoro : ByteArray := ⟨#[99, 111, 114, 111, 108, 108, 97, 114, 121]⟩
def rPlain : ByteArray := ⟨#[112, 108, 97, 105, 110]⟩
def rConj : ByteArray := ⟨#[99, 111, 110, 106, 101, 99, 116, 117, 114, 101]⟩
def rNega : ByteArray := ⟨#[110, 101, 103, 97, 116, 101, 100, 95, 99, 111, 110, 106, 101, 99, 116, 117, 114, 101]⟩
def roleList : List ByteArray := [rAxiom, rHypo, rDefi, rAssu, rLemma, rTheo, rCoro, rPlain, rConj, rNega]
/-- is a text a role? -/
def roleB (s : ByteArray) : Bool := roleList.any fun r => decide (s = r)
/-- a role that an entry of a kind may have -/
def roleOK (cnf : Bool) (s : ByteArray) : Bool := roleB s && !(cnf && decide (s = rConj))
/-- a clause's literals -/
def Fm.lits (f : Fm) : Option (List Fm) := if f.lit then some [f] else if f.op = 7 ∧ f.args.all Fm.lit = true then some f.args else none
/-- ErrClause, ErrFree, or OK -/
def shapedE (cnf : Bool) (f : Fm) : Int := if cnf then (if f.lits.isSome then 0 else 243) else if f.freeS = [] then 0 else 242
def Ent.check (x : Ent) : Int := if named x.name = false then 2 else if roleOK x.cnf x.role = false then 241 else if x.form.check ≠ 0 then x.form.check else shapedE x.cnf x.form

/-- a fault: the file, the place, the error -/
structure Flt where
  file : Int
  at' : Int
  e : Int
inductive Out (α : Type) where
  | ok (x : α)
  | flt (t : Flt)
def Out.bind {α β : Type} (x : Out α) (g : α → Out β) : Out β := match x with
  | .ok x => g x
  | .flt t => .flt t
@[simp] theorem Out.bind_ok {α β : Type} (x : α) (g : α → Out β) : Out.bind (.ok x) g = g x := rfl
@[simp] theorem Out.bind_flt {α β : Type} (t : Flt) (g : α → Out β) : Out.bind (.flt t) g = .flt t := rfl
/-- a token that can't stand there -/
def itemAt (l : List Tok) (file : Int) (ks : List Tok) : Flt := ⟨file, (tokAt l (badAt l ks)).at', 240⟩
def Rd.out {α β : Type} (x : Rd α) (l : List Tok) (file : Int) (g : α → List Tok → Out β) : Out β := match x with
  | .ok x r => g x r
  | .bad r => .flt (itemAt l file r)
@[simp] theorem Rd.out_ok {α β : Type} (x : α) (r l : List Tok) (file : Int) (g : α → List Tok → Out β) : Rd.out (.ok x r) l file g = g x r := rfl
@[simp] theorem Rd.out_bad {α β : Type} (r l : List Tok) (file : Int) (g : α → List Tok → Out β) : Rd.out (.bad r) l file g = .flt (itemAt l file r) := rfl

/-- a name, or a number -/
def nameK : List Tok → Rd ByteArray
  | [] => .bad []
  | t :: ks => if t.named || decide (t.kind = 5) then .ok t.text ks else .bad (t :: ks)
theorem nameK_cons (t : Tok) (ks : List Tok) : nameK (t :: ks) = if t.named || decide (t.kind = 5) then .ok t.text ks else .bad (t :: ks) := rfl
/-- a name and where it stands -/
def nameAt (ks : List Tok) : Rd (ByteArray × Int) := (nameK ks).map fun s => (s, (peekT ks).at')
def sDot : ByteArray := ⟨#[46]⟩
def sFof : ByteArray := ⟨#[102, 111, 102]⟩
def sCnf : ByteArray := ⟨#[99, 110, 102]⟩
def sIncl : ByteArray := ⟨#[105, 110, 99, 108, 117, 100, 101]⟩
/-- what stands ahead of an entry's formula: the name, the role, the role's place -/
def entHead (ks : List Tok) : Rd (ByteArray × ByteArray × Int) :=
  (mustS sLpar ks).bind fun _ r1 => (nameK r1).bind fun nm r2 => (mustS sComma r2).bind fun _ r3 => (kindK 1 r3).bind fun role r4 => (mustS sComma r4).map fun _ => (nm, role, (peekT r3).at')
def entEnd (ks : List Tok) : Rd Unit := (mustS sRpar ks).bind fun _ r => mustS sDot r
/-- an entry behind its first token, which stands at a place; so many are there in all -/
def entR (l : List Tok) (file : Int) (cnf : Bool) (fr : Int) (n : Nat) (ks : List Tok) : Out (Ent × List Tok) :=
  (entHead ks).out l file fun h r =>
    if roleOK cnf h.2.1 = false then .flt ⟨file, h.2.2, 241⟩
    else if (readS l (l.length - r.length : Nat)).2.2 ≠ 0 then .flt ⟨file, (tokOf l (readS l (l.length - r.length : Nat)).2.1).at', (readS l (l.length - r.length : Nat)).2.2⟩
    else (entEnd (l.drop (readS l (l.length - r.length : Nat)).2.1.toNat)).out l file fun _ r' =>
      if shapedE cnf (readS l (l.length - r.length : Nat)).1 ≠ 0 then .flt ⟨file, fr, shapedE cnf (readS l (l.length - r.length : Nat)).1⟩
      else if 200 ≤ n then .flt ⟨file, fr, 3⟩
      else .ok (⟨cnf, h.1, h.2.1, (readS l (l.length - r.length : Nat)).1⟩, r')
/-- the names that are told of an include -/
def incNames (ks : List Tok) : Rd (Option (List (ByteArray × Int))) := match takeS sComma ks with
  | none => .ok none ks
  | some r1 => (mustS sLbra r1).bind fun _ r2 => (rowR nameAt sComma r2).bind fun ns r3 => (mustS sRbra r3).map fun _ => some ns
/-- an include: the file's name, its place, the names -/
def incHead (ks : List Tok) : Rd (ByteArray × Int × Option (List (ByteArray × Int))) :=
  (mustS sLpar ks).bind fun _ r1 => (kindK 4 r1).bind fun fn r2 => (incNames r2).bind fun ns r3 => (mustS sRpar r3).bind fun _ r4 => (mustS sDot r4).map fun _ => (fn, (peekT r1).at', ns)
/-- the first file of a name -/
def findF (files : List (ByteArray × ByteArray)) (nm : ByteArray) : Option Nat := files.findIdx? fun f => decide (f.1 = nm)
/-- of what came, those with names that are told stay -/
def chosen (file : Int) (ns : Option (List (ByteArray × Int))) (l : List Ent) : Out (List Ent) := match ns with
  | none => .ok l
  | some ns => match ns.find? fun p => !(l.any fun x => decide (x.name = p.1)) with
    | some p => .flt ⟨file, p.2, 244⟩
    | none => .ok (l.filter fun x => ns.any fun p => decide (p.1 = x.name))
/-- an include behind its first token -/
def incR (rd : Nat → Nat → Nat → Out (List Ent × Nat)) (files : List (ByteArray × ByteArray)) (opn : Nat → Bool) (l : List Tok) (file : Int) (n cnt : Nat) (ks : List Tok) : Out ((List Ent × Nat) × List Tok) :=
  (incHead ks).out l file fun h r =>
    if 200 < cnt + 1 then .flt ⟨file, h.2.1, 3⟩
    else match findF files h.1 with
      | none => .flt ⟨file, h.2.1, 244⟩
      | some i => if opn i then .flt ⟨file, h.2.1, 245⟩
        else (rd i n (cnt + 1)).bind fun x => (chosen file h.2.2 x.1).bind fun l' => .ok ((l', x.2), r)
/-- the items of a text -/
def itemsF (rd : Nat → Nat → Nat → Out (List Ent × Nat)) (files : List (ByteArray × ByteArray)) (opn : Nat → Bool) (l : List Tok) (file : Int) (ahead : Nat) : Nat → List Tok → List Ent → Nat → Out (List Ent × Nat)
  | 0, _, _, _ => .flt ⟨0, 0, 0⟩
  | f + 1, ks, out, cnt =>
    if (peekT ks).kind = 7 then .ok (out, cnt)
    else if (peekT ks).kind = 1 ∧ ((peekT ks).text = sFof ∨ (peekT ks).text = sCnf) then
      (entR l file (decide ((peekT ks).text = sCnf)) (peekT ks).at' (ahead + out.length) ks.tail).bind fun x => itemsF rd files opn l file ahead f x.2 (out ++ [x.1]) cnt
    else if (peekT ks).kind = 1 ∧ (peekT ks).text = sIncl then
      (incR rd files opn l file (ahead + out.length) cnt ks.tail).bind fun x => itemsF rd files opn l file ahead f x.2 (out ++ x.1.1) x.1.2
    else .flt (itemAt l file ks)
def textOf (files : List (ByteArray × ByteArray)) (i : Nat) : ByteArray := (files[i]?.map Prod.snd).getD ⟨#[]⟩
/-- a text, to so deep includes -/
def readF (files : List (ByteArray × ByteArray)) : Nat → (Nat → Bool) → Int → ByteArray → Nat → Nat → Out (List Ent × Nat)
  | 0, _, _, _, _, _ => .flt ⟨0, 0, 0⟩
  | d + 1, opn, file, s, ahead, cnt =>
    if (cutS s).2.2 ≠ 0 then .flt ⟨file, ((cutS s).2.1 : Nat), (cutS s).2.2⟩
    else itemsF (fun i n c => readF files d (fun k => decide (k = i) || opn k) i (textOf files i) n c) files opn (cutS s).1 file ahead ((cutS s).1.length + 1) (cutS s).1 [] cnt
/-- a problem: the entries, the fault -/
def readP (files : List (ByteArray × ByteArray)) (s : ByteArray) : Out (List Ent) := (readF files (files.length + 1) (fun _ => false) (-1) s 0 0).bind fun x => .ok x.1

theorem nameK_suf (ks : List Tok) : (nameK ks).rest <:+ ks := by
  cases ks with
  | nil => exact List.suffix_refl _
  | cons t ks =>
    rw [nameK_cons]
    split
    · exact List.suffix_cons _ _
    · exact List.suffix_refl _
theorem nameK_lt {ks r : List Tok} {x : ByteArray} (h : nameK ks = .ok x r) : r.length + 1 = ks.length := by
  cases ks with
  | nil => cases h
  | cons t ks =>
    rw [nameK_cons] at h
    split at h
    · injection h with _ h; subst h; rfl
    · cases h
theorem nameK_pres : Pres nameK := fun ks x r he h => by
  cases ks with
  | nil => cases h
  | cons t ks =>
    rw [nameK_cons] at h
    split at h
    · rename_i ht
      injection h with _ h; subst h
      refine he.tail fun h7 => ?_
      rw [Bool.or_eq_true, decide_eq_true_eq] at ht
      rcases ht with ht | ht
      · exact named_kind ht h7
      · rw [ht] at h7; cases h7
    · cases h
theorem nameAt_suf (ks : List Tok) : (nameAt ks).rest <:+ ks := suf_map (nameK_suf ks)
theorem nameAt_shrinks (n : Nat) : Shrinks nameAt n := fun ks x r _ h => by
  obtain ⟨z, h1, -⟩ := map_ok h
  have := nameK_lt h1
  omega
theorem nameAt_pres : Pres nameAt := fun ks x r he h => by
  obtain ⟨z, h1, -⟩ := map_ok h
  exact nameK_pres _ _ _ he h1
theorem entHead_suf (ks : List Tok) : (entHead ks).rest <:+ ks :=
  suf_bind (mustS_suf _ _) fun _ _ _ => suf_bind (nameK_suf _) fun _ _ _ => suf_bind (mustS_suf _ _) fun _ _ _ => suf_bind (kindK_suf _ _) fun _ _ _ => suf_map (mustS_suf _ _)
theorem entEnd_suf (ks : List Tok) : (entEnd ks).rest <:+ ks := suf_bind (mustS_suf _ _) fun _ _ _ => mustS_suf _ _
theorem pres_bind {α β : Type} {one : List Tok → Rd α} {g : α → List Tok → Rd β} (h1 : Pres one) (h2 : ∀ x, Pres (g x)) : Pres fun ks => (one ks).bind g := fun ks x r he h => by
  obtain ⟨z, r', h3, h4⟩ := bind_ok h
  exact h2 z r' x r (h1 _ _ _ he h3) h4
theorem entHead_pres : Pres entHead :=
  pres_bind (mustS_pres _) fun _ => pres_bind nameK_pres fun _ => pres_bind (mustS_pres _) fun _ ks x r he h => by
    obtain ⟨z, r', h3, h4⟩ := bind_ok h
    obtain ⟨y, h5, -⟩ := map_ok h4
    exact mustS_pres _ _ _ _ (kindK_pres (by decide) _ _ _ he h3) h5
theorem entEnd_pres : Pres entEnd := pres_bind (mustS_pres _) fun _ => mustS_pres _
theorem incNames_suf (ks : List Tok) : (incNames ks).rest <:+ ks := by
  unfold incNames
  cases h : takeS sComma ks with
  | none => exact List.suffix_refl _
  | some r => exact List.IsSuffix.trans (suf_bind (mustS_suf _ _) fun _ _ _ => suf_bind (rowR_suf nameAt_suf _) fun _ _ _ => suf_map (mustS_suf _ _)) (takeS_suf h)
theorem incNames_pres : Pres incNames := fun ks x r he h => by
  unfold incNames at h
  cases ht : takeS sComma ks with
  | none => rw [ht] at h; injection h with _ h; subst h; exact he
  | some r1 =>
    rw [ht] at h
    simp only at h
    obtain ⟨_, r2, h1, h⟩ := bind_ok h
    obtain ⟨_, r3, h2, h⟩ := bind_ok h
    obtain ⟨_, h3, -⟩ := map_ok h
    exact mustS_pres _ _ _ _ (rowR_pres nameAt_pres _ _ _ (mustS_pres _ _ _ _ (takeS_ends he ht) h1) h2) h3
theorem incHead_suf (ks : List Tok) : (incHead ks).rest <:+ ks :=
  suf_bind (mustS_suf _ _) fun _ _ _ => suf_bind (kindK_suf _ _) fun _ _ _ => suf_bind (incNames_suf _) fun _ _ _ => suf_bind (mustS_suf _ _) fun _ _ _ => suf_map (mustS_suf _ _)
theorem incHead_pres : Pres incHead := fun ks x r he h => by
  obtain ⟨_, r1, h1, h⟩ := bind_ok h
  obtain ⟨_, r2, h2, h⟩ := bind_ok h
  obtain ⟨_, r3, h3, h⟩ := bind_ok h
  obtain ⟨_, r4, h4, h⟩ := bind_ok h
  obtain ⟨_, h5, -⟩ := map_ok h
  exact mustS_pres _ _ _ _ (mustS_pres _ _ _ _ (incNames_pres _ _ _ (kindK_pres (by decide) _ _ _ (mustS_pres _ _ _ _ he h1) h2) h3) h4) h5
theorem suf_ok {α : Type} {x : Rd α} {y : α} {r ks : List Tok} (h : x.rest <:+ ks) (e : x = .ok y r) : r <:+ ks := by rw [e] at h; exact h
theorem mustS_len {s : ByteArray} {ks r : List Tok} {u : Unit} (h : mustS s ks = .ok u r) : r.length < ks.length := by have := mustS_lt h; omega
theorem entHead_lt {ks r : List Tok} {x} (h : entHead ks = .ok x r) : r.length < ks.length := by
  obtain ⟨_, r1, h1, h2⟩ := bind_ok h
  have := mustS_len h1
  have := (suf_ok (suf_bind (nameK_suf r1) fun _ _ _ => suf_bind (mustS_suf _ _) fun _ _ _ => suf_bind (kindK_suf _ _) fun _ _ _ => suf_map (mustS_suf _ _)) h2).length_le
  omega
theorem entEnd_lt {ks r : List Tok} {x} (h : entEnd ks = .ok x r) : r.length < ks.length := by
  obtain ⟨_, r1, h1, h2⟩ := bind_ok h
  have := mustS_len h1
  have := mustS_len h2
  omega
theorem incHead_lt {ks r : List Tok} {x} (h : incHead ks = .ok x r) : r.length < ks.length := by
  obtain ⟨_, r1, h1, h2⟩ := bind_ok h
  have := mustS_len h1
  have := (suf_ok (suf_bind (kindK_suf _ r1) fun _ _ _ => suf_bind (incNames_suf _) fun _ _ _ => suf_bind (mustS_suf _ _) fun _ _ _ => suf_map (mustS_suf _ _)) h2).length_le
  omega
/-- where a formula that is read stops -/
theorem readS_at {l r : List Tok} (he : Ends l) (hr : r <:+ l) (her : Ends r) : 0 ≤ (readS l (l.length - r.length : Nat)).2.1 ∧ (readS l (l.length - r.length : Nat)).2.1 < l.length ∧
    ((readS l (l.length - r.length : Nat)).2.2 = 0 → l.drop (readS l (l.length - r.length : Nat)).2.1.toNat <:+ r ∧ (l.drop (readS l (l.length - r.length : Nat)).2.1.toNat).length < r.length ∧ Ends (l.drop (readS l (l.length - r.length : Nat)).2.1.toNat)) := by
  have hp := he.pos
  have hrp := her.pos
  have hle := hr.length_le
  have hd : l.drop (l.length - r.length) = r := (List.suffix_iff_eq_drop.1 hr).symm
  unfold readS
  rw [if_neg (by omega), Int.toNat_natCast, hd]
  cases hf : rForm r with
  | bad k => simp only; exact ⟨by omega, by have : badAt l k ≤ l.length - 1 := Nat.min_le_right _ _; omega, fun h => by cases h⟩
  | ok f k =>
    have hk := rForm_pres _ _ _ her hf
    have hkp := hk.pos
    have hlt := rForm_lt hf
    have hks := suf_ok (rForm_suf r) hf
    simp only
    split
    · rename_i hc; simp only; exact ⟨by omega, by omega, fun h => absurd h hc⟩
    · simp only [Int.toNat_natCast]
      have hd2 : l.drop (l.length - k.length) = k := (List.suffix_iff_eq_drop.1 (hks.trans hr)).symm
      rw [hd2]
      exact ⟨by omega, by omega, fun _ => ⟨hks, hlt, hk⟩⟩
theorem entR_ok {l : List Tok} {file : Int} {cnf : Bool} {fr : Int} {n : Nat} {ks r : List Tok} {x : Ent} (he : Ends l) (hk : ks <:+ l) (hke : Ends ks) (h : entR l file cnf fr n ks = .ok (x, r)) : r <:+ ks ∧ r.length < ks.length ∧ Ends r ∧ n < 200 := by
  unfold entR at h
  cases hh : entHead ks with
  | bad r1 => rw [hh] at h; cases h
  | ok y r1 =>
    rw [hh, Rd.out_ok] at h
    have hs1 := suf_ok (entHead_suf ks) hh
    have hl1 := entHead_lt hh
    have he1 := entHead_pres _ _ _ hke hh
    obtain ⟨-, -, ha⟩ := readS_at he (hs1.trans hk) he1
    split at h
    · cases h
    · split at h
      · cases h
      · rename_i h0
        obtain ⟨a1, a2, a3⟩ := ha (Decidable.not_not.1 h0)
        cases hE : entEnd (l.drop (readS l (l.length - r1.length : Nat)).2.1.toNat) with
        | bad r2 => rw [hE] at h; cases h
        | ok y2 r2 =>
          rw [hE, Rd.out_ok] at h
          split at h
          · cases h
          · split at h
            · cases h
            · injection h with h
              injection h with _ h
              subst h
              have hs2 := suf_ok (entEnd_suf _) hE
              have := entEnd_lt hE
              exact ⟨(hs2.trans a1).trans hs1, by omega, entEnd_pres _ _ _ a3 hE, by omega⟩
theorem Out.bind_eq_ok {α β : Type} {x : Out α} {g : α → Out β} {y : β} (h : x.bind g = .ok y) : ∃ z, x = .ok z ∧ g z = .ok y := by
  cases x with
  | ok z => exact ⟨z, rfl, h⟩
  | flt t => cases h
theorem incR_ok {rd : Nat → Nat → Nat → Out (List Ent × Nat)} {files : List (ByteArray × ByteArray)} {opn : Nat → Bool} {l : List Tok} {file : Int} {n cnt : Nat} {ks r : List Tok} {x : List Ent × Nat} (hke : Ends ks) (h : incR rd files opn l file n cnt ks = .ok (x, r)) : r <:+ ks ∧ r.length < ks.length ∧ Ends r := by
  unfold incR at h
  cases hh : incHead ks with
  | bad r1 => rw [hh] at h; cases h
  | ok y r1 =>
    rw [hh, Rd.out_ok] at h
    split at h
    · cases h
    · split at h
      · cases h
      · split at h
        · cases h
        · obtain ⟨z, -, h⟩ := Out.bind_eq_ok h
          obtain ⟨z2, -, h⟩ := Out.bind_eq_ok h
          injection h with h
          injection h with _ h
          subst h
          exact ⟨suf_ok (incHead_suf ks) hh, incHead_lt hh, incHead_pres _ _ _ hke hh⟩
end Go.Proofs.Ytnclgkdpafhogaa
namespace Go.Proofs.Ytnclgkdpafhogaa
open Go.ChangeShapes Go.WideShapes Go.ChangeAt Go.RowKit
theorem RSt.append {α : Type} {E : Elt α} {e B rb : Nat} {l : List Tok} {w w1 w2 : World} {st : Rd Unit} {v : Value} {m : List α} (h : RSt rb l w1 st) (hr : GRow E e B w v m) (hB : rb < B) (hg : w1.grownBy w2 v.ownBlock) : RSt rb l w2 st := by
  cases ho : v.ownBlock with
  | none =>
    rw [ho] at hg
    exact h.chg (S := []) (Chg.of_grown hg (by simp)) (by simp)
  | some g =>
    rw [ho] at hg
    have := (hr.own_ge ho).1
    exact h.chg (S := [g]) (Chg.of_grown hg (by simp)) (by simp; omega)
end Go.Proofs.Ytnclgkdpafhogaa
namespace Go.Proofs.Ytnclgkdpafhogaa
open Go.ChangeShapes Go.WideShapes Go.ChangeAt Go.RowKit
theorem addr_add (b o j : Nat) : (⟨b, o, none⟩ : Addr).add j = ⟨b, o + j, none⟩ := by unfold Addr.add; split <;> simp_all
/-- the cells of a row, one behind the other -/
theorem Dat.Rows.cells {P : Nat → Prop} {w : World} {m : Nat} : ∀ {L : List (List Dat)} {b o : Nat}, Dat.Rows P w (some ⟨b, o, none⟩) L → (∀ e ∈ L, e.length = m) →
    ∃ css : List (List Value), css.length = L.length ∧ (∀ j (h : j < css.length) (h' : j < L.length), Dat.Fs P w css[j] L[j]) ∧ (∀ c ∈ css, c.length = m) ∧ ∀ j u, css.flatten[j]? = some u → w.cell? ⟨b, o + j, none⟩ = some u
  | [], _, _, _, _ => ⟨[], rfl, fun j h => by simp at h, by simp, fun j u h => by simp at h⟩
  | e :: L, b, o, h, hm => by
    obtain ⟨b', o', vs, h1, -, -, h2, h3, h4⟩ := h
    injection h1 with h1
    injection h1 with e1 e2 _
    subst e1; subst e2
    have he := hm e (by simp)
    obtain ⟨css, g1, g2, g3, g4⟩ := Dat.Rows.cells h4 (fun x hx => hm x (by simp [hx]))
    have hv : vs.length = m := by rw [h3.length, he]
    refine ⟨vs :: css, by simp [g1], fun j hj hj' => ?_, fun c hc => ?_, fun j u hu => ?_⟩
    · cases j with
      | zero => exact h3
      | succ j => exact g2 j (by simpa using hj) (by simpa using hj')
    · rcases List.mem_cons.1 hc with rfl | hc
      · exact hv
      · exact g3 c hc
    · rw [List.flatten_cons] at hu
      rcases Nat.lt_or_ge j vs.length with hj | hj
      · rw [List.getElem?_append_left hj] at hu; exact h2 j u hu
      · rw [List.getElem?_append_right hj] at hu
        have := g4 _ _ hu
        rw [he, show o + m + (j - vs.length) = o + j by omega] at this
        exact this
theorem Dat.Fs.flat_one {P : Nat → Prop} {w : World} {L : List (List Dat)} {css : List (List Value)} (hc : css.length = L.length) (hf : ∀ j (h : j < css.length) (h' : j < L.length), Dat.Fs P w css[j] L[j]) : ∀ u ∈ css.flatten, u.oneCell' = true := by
  intro u hu
  obtain ⟨c, hc1, hu⟩ := List.mem_flatten.1 hu
  obtain ⟨j, hj, rfl⟩ := List.getElem_of_mem hc1
  exact (hf j hj (by omega)).one u hu
theorem flat_len {css : List (List Value)} {m : Nat} (hl : ∀ c ∈ css, c.length = m) : css.flatten.length = css.length * m := by
  induction css with
  | nil => simp
  | cons c css ih =>
    rw [List.flatten_cons, List.length_append, hl c (by simp), ih (fun x hx => hl x (by simp [hx])), List.length_cons, Nat.add_mul]; omega
end Go.Proofs.Ytnclgkdpafhogaa
namespace Go.Proofs.Ytnclgkdpafhogaa
open Go.ChangeShapes Go.WideShapes Go.ChangeAt Go.RowKit
/-- v is a row of the call's own, in blocks from B on; its elements are l, and what belongs to them lies in blocks of P, none in the row's own -/
def PRow (m : Nat) (e : TypeId) (B : Nat) (P : Nat → Prop) (w : World) (v : Value) (l : List (List Dat)) : Prop :=
  ∃ cs : List (List Value), cs.length = l.length ∧ w.ownsRow B e m v l.length cs.flatten ∧ ∀ j (h : j < l.length) (h' : j < cs.length), (eltDat m).is (fun b => P b ∧ v.ownBlock ≠ some b) w cs[j] l[j]

section
variable {m e B : Nat} {P Q : Nat → Prop} {w w' : World} {v : Value} {l M : List (List Dat)}
theorem PRow.of_grow (h : GRow (eltDat m) e B w v l) : PRow m e B (fun b => B ≤ b) w v l := h
theorem PRow.grow (h : PRow m e B P w v l) (hP : ∀ b, P b → B ≤ b) : GRow (eltDat m) e B w v l := by
  obtain ⟨cs, h1, h2, h3⟩ := h
  exact ⟨cs, h1, h2, fun j h h' => ⟨(h3 j h h').1, (h3 j h h').2.mono fun b hb _ => ⟨hP b hb.1, hb.2⟩⟩⟩
theorem PRow.nil : PRow m e B P w (.slice none 0 0) [] := ⟨[], rfl, World.ownsRow_nil _ _ _ _, fun j h => by simp at h⟩
theorem PRow.own_ge (h : PRow m e B P w v l) {g : Nat} (hg : v.ownBlock = some g) : B ≤ g ∧ g < w.heap.size := by
  obtain ⟨cs, -, h2, -⟩ := h
  exact own_lt h2 hg
theorem PRow.mono (h : PRow m e B P w v l) (hQ : ∀ b, P b → b < w.heap.size → Q b) : PRow m e B Q w v l := by
  obtain ⟨cs, h1, h2, h3⟩ := h
  exact ⟨cs, h1, h2, fun j h h' => ⟨(h3 j h h').1, (h3 j h h').2.mono fun b hb hl => ⟨hQ b hb.1 hl, hb.2⟩⟩⟩
theorem PRow.chg {S : List Nat} (h : PRow m e B P w v l) (hx : Chg S w w') (hS : ∀ i ∈ S, v.ownBlock ≠ some i ∧ (P i → v.ownBlock = some i)) : PRow m e B P w' v l := by
  obtain ⟨cs, h1, h2, h3⟩ := h
  exact ⟨cs, h1, own_keep h2 (fun g hg hl => hx.block g hl (fun hm => (hS g hm).1 hg)), fun j h h' => ⟨(h3 j h h').1, (h3 j h h').2.chg hx fun b hb hm => hb.2 ((hS b hm).2 hb.1)⟩⟩
theorem PRow.ext (h : PRow m e B P w v l) (hx : Ext w w') : PRow m e B P w' v l := h.chg (Chg.of_ext (S := []) hx) (by simp)
theorem PRow.form (h : PRow m e B P w v l) : ∃ a c, v = .slice a l.length c ∧ l.length ≤ c := by
  obtain ⟨cs, -, ⟨-, h2⟩, -⟩ := h
  rcases h2 with ⟨h2, h3⟩ | ⟨g, cap, cur, h2, -, -, h4, -⟩
  · exact ⟨none, 0, by rw [h3]; exact h2, by omega⟩
  · exact ⟨_, _, h2, h4⟩
theorem PRow.at (h : PRow m e B P w v l) {j : Nat} (hj : j < l.length) : ∃ g cap cs, v = .slice (some ⟨g, 0, none⟩) l.length cap ∧ B ≤ g ∧ g < w.heap.size ∧ l.length ≤ cap ∧ (eltDat m).is (fun b => P b ∧ v.ownBlock ≠ some b) w cs l[j] ∧ cs.length = m ∧ ∀ i u, cs[i]? = some u → w.cell? ⟨g, j * m + i, none⟩ = some u := by
  obtain ⟨a0, c0, hv0, hc0⟩ := h.form
  obtain ⟨cs, h1, h2, h3⟩ := h
  obtain ⟨g, cap, rfl, hb, hlt⟩ := h2.form (by omega)
  injection hv0 with _ _ hcc
  subst hcc
  refine ⟨g, cap, cs[j], rfl, hb, hlt, hc0, h3 j hj (by omega), (h3 j hj (by omega)).1, fun i u hu => ?_⟩
  have hlen : ∀ c ∈ cs, c.length = m := by
    intro c hc
    obtain ⟨k, hk, rfl⟩ := List.getElem_of_mem hc
    exact (h3 k (by omega) hk).1
  have hi : i < m := by
    have := hlen cs[j] (List.getElem_mem _)
    rcases Nat.lt_or_ge i cs[j].length with h1 | h1
    · omega
    · rw [List.getElem?_eq_none h1] at hu; cases hu
  have := h2.cells (g := g) rfl (j * m + i) u (by rw [flatten_at cs hlen j (by omega) i hi]; exact hu)
  rw [addr_add] at this
  simpa using this
theorem PRow.dat (hm : 0 < m) (h : PRow m e B P w v l) : ∃ a c, v = .slice a l.length c ∧ l.length ≤ c ∧ Dat.Rows (fun b => P b ∨ v.ownBlock = some b) w a l := by
  obtain ⟨a, c, rfl, hc⟩ := h.form
  refine ⟨a, c, rfl, hc, ?_⟩
  rcases Nat.eq_zero_or_pos l.length with h0 | h0
  · have : l = [] := List.eq_nil_of_length_eq_zero h0
    subst this; trivial
  · obtain ⟨g, cap, cs, hv, hg, -⟩ := h.at h0
    injection hv with e1 _ _
    subst e1
    have hel : ∀ e ∈ l, e.length = m := by
      intro x hx
      obtain ⟨i, hi, rfl⟩ := List.getElem_of_mem hx
      obtain ⟨_, _, cs, -, -, -, -, h1, h2, -⟩ := h.at hi
      rw [← Dat.Fs.length h1.2]; exact h2
    refine Dat.Rows.of_at (.inr rfl) hm hel fun i hi => ?_
    obtain ⟨g', cap', cs, hv', -, -, -, h1, h2, h3⟩ := h.at hi
    injection hv' with e1 _ _
    injection e1 with e1; injection e1 with e1 _ _
    subst e1
    exact ⟨cs, fun j u hu => by have := h3 j u hu; simpa using this, h1.2.mono fun b hb _ => .inl hb.1⟩
/-- behind an append of a whole row -/
theorem PRow.appended {cs css : List (List Value)} {w2 : World} {v' : Value} (hcl : cs.length = l.length) (hel : ∀ j (h : j < l.length) (h' : j < cs.length), (eltDat m).is (fun b => P b ∧ v.ownBlock ≠ some b) w cs[j] l[j])
    (hc : css.length = M.length) (hf : ∀ j (h : j < css.length) (h' : j < M.length), Dat.Fs Q w css[j] M[j]) (hl : ∀ c ∈ css, c.length = m) (hQ : ∀ b, Q b → b < w.heap.size → P b ∧ v.ownBlock ≠ some b)
    (hg : w.grownBy w2 v.ownBlock) (ho : w2.ownsRow B e m v' (l.length + M.length) (cs.flatten ++ css.flatten)) (hat : v'.ownBlock = v.ownBlock ∨ v'.ownBlock = some w.heap.size) : PRow m e B P w2 v' (l ++ M) := by
  have hQ' : ∀ b, (P b ∧ v.ownBlock ≠ some b) → b < w.heap.size → P b ∧ v'.ownBlock ≠ some b := by
    intro b hb hlt
    refine ⟨hb.1, fun h => ?_⟩
    rcases hat with h1 | h1
    · rw [h1] at h; exact hb.2 h
    · rw [h1] at h; injection h with h; omega
  have hK : ∀ p u, (P p.block ∧ v.ownBlock ≠ some p.block) → w.cell? p = some u → w2.cell? p = some u := by
    intro p u hp hu
    rw [hg.cell_far p (cell_lt hu) (Ne.symm hp.2)]; exact hu
  refine ⟨cs ++ css, by simp [hcl, hc], ?_, fun j h h' => ?_⟩
  · rw [List.flatten_append, List.length_append]; exact ho
  · by_cases hj : j < l.length
    · rw [List.getElem_append_left hj, List.getElem_append_left (by omega)]
      exact (eltDat m).keep hQ' hK (hel j hj (by omega))
    · have h1 : j < l.length + M.length := by simpa using h
      rw [List.getElem_append_right (by omega), List.getElem_append_right (by omega)]
      have h2 := hf (j - cs.length) (by omega) (by omega)
      simp only [hcl] at h2 ⊢
      exact (eltDat m).keep hQ' hK ⟨hl _ (List.getElem_mem _), h2.mono hQ⟩
end
theorem run_append_rows {m e t B bytes : Nat} {i : TypeInfo} {z : Value} {P Q : Nat → Prop} {w : World} {v : Value} {l M : List (List Dat)} (ht : Try.prog.underlying t = some (.slice e)) (hi : Try.prog.info? e = some i) (hz : i.zero = some z) (hsize : i.size = m) (hby : i.bytes = bytes) (hzs : z.cells.size = m) (hsz : 0 < m)
    (hrow : PRow m e B P w v l) {b : Option Addr} {c : Nat} (h : Dat.Rows Q w b M) (hM : ∀ x ∈ M, x.length = m) (hQ : ∀ b, Q b → b < w.heap.size → P b ∧ v.ownBlock ≠ some b) (hlen : l.length + M.length ≤ 8388608) (hbytes : bytes ≤ 1048576) (hbase : B ≤ w.heap.size) (ty : TypeId) :
    ∃ v' w', (Builtin.append_ #[t, t] ty #[v, .slice b M.length c]).run Try.prog w = .ok v' w' ∧ PRow m e B P w' v' (l ++ M) ∧ RFr w v w' v' := by
  have hrow' := hrow
  obtain ⟨cs, h1, ho, h3⟩ := hrow
  cases b with
  | none =>
    have hx : M = [] := by
      cases M with
      | nil => rfl
      | cons s xs => obtain ⟨_, _, _, he, -⟩ := h; cases he
    subst hx
    refine ⟨v, w, ?_, by rw [List.append_nil]; exact hrow', RFr.refl _ _⟩
    rcases ho.2 with ⟨rfl, h0⟩ | ⟨g, cap, cur, rfl, _, _, hnc, _⟩
    · simp [Builtin.append_, run_underlying ht, sizeOf, typeInfo, hi, Builtin.lenOf, Builtin.firstCells]
    · simp [Builtin.append_, run_underlying ht, sizeOf, typeInfo, hi, Builtin.lenOf, Builtin.firstCells, hnc, storeCells]
  | some a =>
    cases M with
    | nil =>
      obtain ⟨v', w', hr, g1, g2, g3, g4⟩ := run_append_own_at w B t ty e i z m bytes ht hi hz hsize hby hzs hsz v l.length cs.flatten ho a 0 c [] (by simp) (by simp) (by simp) (by simp only [maxLen]; omega) (by have := Nat.mul_le_mul (show l.length + 0 ≤ 8388608 by simp at hlen; omega) hbytes; omega) hbase
      have hgr : w.grownBy w' v.ownBlock := g2
      refine ⟨v', w', hr, ?_, ⟨Chg.of_grown hgr (fun g hg => .inl (by simp [hg])), ?_⟩⟩
      · exact PRow.appended (M := []) (css := []) (Q := fun _ => False) h1 h3 rfl (fun j hj => by simp at hj) (by simp) (fun b hb => hb.elim) hgr (by simpa using g1) g4
      · rcases g4 with h4 | h4
        · exact .inl h4
        · exact .inr fun g hg => by rw [h4] at hg; injection hg with hg; omega
    | cons x xs =>
      obtain ⟨b', o', he, -⟩ := Dat.Rows.addr h (by simp)
      injection he with he
      subst he
      obtain ⟨css, k1, k2, k3, k4⟩ := Dat.Rows.cells h hM
      obtain ⟨v', w', hr, g1, g2, -, g4⟩ := run_append_own_at w B t ty e i z m bytes ht hi hz hsize hby hzs hsz v l.length cs.flatten ho ⟨b', o', none⟩ (x :: xs).length c css.flatten (by rw [flat_len k3, k1]) (fun j u hu => by rw [addr_add]; exact k4 j u hu) (Dat.Fs.flat_one k1 k2) (by simp only [maxLen]; omega) (by have := Nat.mul_le_mul hlen hbytes; omega) hbase
      refine ⟨v', w', hr, PRow.appended h1 h3 k1 k2 k3 hQ g2 g1 g4, ⟨Chg.of_grown g2 (fun g hg => .inl (by simp [hg])), ?_⟩⟩
      rcases g4 with h4 | h4
      · exact .inl h4
      · exact .inr fun g hg => by rw [h4] at hg; injection hg with hg; omega
theorem wp_append_rows {m e t B bytes : Nat} {i : TypeInfo} {z : Value} {P Q : Nat → Prop} {w : World} {v : Value} {l M : List (List Dat)} (ht : Try.prog.underlying t = some (.slice e)) (hi : Try.prog.info? e = some i) (hz : i.zero = some z) (hsize : i.size = m) (hby : i.bytes = bytes) (hzs : z.cells.size = m) (hsz : 0 < m) (hbytes : bytes ≤ 1048576)
    {o : Oper} {a : Act} {K : Act → World → Prop} {R : Exit → Act → World → Prop} (s x : Operand)
    (ho : o.op = .call { callee := .builtin .append, args := #[s, x], argTypes := #[t, t] }) (hs : a.eval s = v) (hrow : PRow m e B P w v l) {b : Option Addr} {c : Nat} (hx : a.eval x = .slice b M.length c) (h : Dat.Rows Q w b M) (hM : ∀ x ∈ M, x.length = m) (hQ : ∀ b, Q b → b < w.heap.size → P b ∧ v.ownBlock ≠ some b)
    (hlen : l.length + M.length ≤ 8388608) (hbase : B ≤ w.heap.size) (hK : ∀ v' w', PRow m e B P w' v' (l ++ M) → RFr w v w' v' → K (a.put o.dst v') w') : o.wp Try.prog a w K R := by
  obtain ⟨v', w', hr, h2, h3⟩ := run_append_rows ht hi hz hsize hby hzs hsz hrow h hM hQ hlen hbytes hbase o.type (c := c)
  unfold Oper.wp execOp
  simp only [ho, resolve, invoke, builtin, Sem.run_bind, Sem.run_pure, Result.andThen_ok, List.map_toArray, List.map_cons, List.map_nil, hs, hx, hr]
  exact hK v' w' h2 h3
theorem wpList_append_rows {m e t B bytes : Nat} {i : TypeInfo} {z : Value} {P Q : Nat → Prop} {w : World} {v : Value} {l M : List (List Dat)} (ht : Try.prog.underlying t = some (.slice e)) (hi : Try.prog.info? e = some i) (hz : i.zero = some z) (hsize : i.size = m) (hby : i.bytes = bytes) (hzs : z.cells.size = m) (hsz : 0 < m) (hbytes : bytes ≤ 1048576)
    {ops : Array Oper} {rest : List Oper} {o : Oper} {a : Act} {R : Exit → Act → World → Prop} (hgd : o.guard = none) (s x : Operand)
    (ho : o.op = .call { callee := .builtin .append, args := #[s, x], argTypes := #[t, t] }) (hs : a.eval s = v) (hrow : PRow m e B P w v l) {b : Option Addr} {c : Nat} (hx : a.eval x = .slice b M.length c) (h : Dat.Rows Q w b M) (hM : ∀ x ∈ M, x.length = m) (hQ : ∀ b, Q b → b < w.heap.size → P b ∧ v.ownBlock ≠ some b)
    (hlen : l.length + M.length ≤ 8388608) (hbase : B ≤ w.heap.size) (hK : ∀ v' w', PRow m e B P w' v' (l ++ M) → RFr w v w' v' → wpList Try.prog ops R rest (a.put o.dst v') w') : wpList Try.prog ops R (o :: rest) a w :=
  wpList_plain hgd fun _ hK' => wp_append_rows ht hi hz hsize hby hzs hsz hbytes s x ho hs hrow hx h hM hQ hlen hbase fun v' w' h1 h2 => hK' _ _ (hK v' w' h1 h2)
end Go.Proofs.Ytnclgkdpafhogaa
namespace Go.Proofs.Ytnclgkdpafhogaa
open Go.ChangeShapes Go.WideShapes Go.ChangeAt Go.RowKit
/-- what Literals says: the literals, of which what belongs to them lies in blocks of a kind -/
def LitsSay (Q : Nat → Prop) (f : Fm) (w : World) (e : Ending) (w' : World) : Prop :=
  (∃ a c, e = .returned (.tuple #[.slice a (f.lits.getD []).length c, .bool f.lits.isSome]) ∧ (f.lits.getD []).length ≤ c ∧ IsFms Q w' a (f.lits.getD [])) ∧ Ext w w'
theorem LitsSay.mk {Q : Nat → Prop} {f : Fm} {w w' : World} {e : Ending} {a : Option Addr} {n c : Nat} {b : Bool} {L : List Fm} (hL : f.lits.getD [] = L) (hb : f.lits.isSome = b) (he : e = .returned (.tuple #[.slice a n c, .bool b])) (hn : n = L.length) (hc : n ≤ c) (hr : IsFms Q w' a L) (hx : Ext w w') : LitsSay Q f w e w' := by
  subst hL; subst hb; subst hn
  exact ⟨⟨a, c, he, hc, hr⟩, hx⟩
theorem one_fm {P Q : Nat → Prop} {w : World} {x y z u : Value} {f : Fm} (h : IsFm P w x y z u f) (hP : ∀ b, P b → b < w.heap.size → Q b) (hQ : Q w.heap.size) : IsFms Q (w.alloc (.cells #[x, y, z, u] 27)) (some ⟨w.heap.size, 0, none⟩) [f] := by
  unfold IsFms
  rw [Fm.dats_map]
  refine ⟨w.heap.size, 0, [x, y, z, u], rfl, hQ, by simp, fun i v hi => ?_, (Dat.Fs.mono h hP).ext (ext_alloc _ _), trivial⟩
  have := cells4' w x y z u 27
  match i, hi with
  | 0, hi => injection hi with hi; subst hi; exact this.1
  | 1, hi => injection hi with hi; subst hi; exact this.2.1
  | 2, hi => injection hi with hi; subst hi; exact this.2.2.1
  | 3, hi => injection hi with hi; subst hi; exact this.2.2.2
  | n + 4, hi => simp at hi
theorem lits_lit {f : Fm} (h : f.lit = true) : f.lits = some [f] := if_pos h
theorem lits_or {f : Fm} (h : f.lit = false) (h7 : f.op = 7) (ha : f.args.all Fm.lit = true) : f.lits = some f.args := by unfold Fm.lits; rw [if_neg (by rw [h]; exact Bool.false_ne_true), if_pos ⟨h7, ha⟩]
theorem lits_none {f : Fm} (h : f.lit = false) (h7 : f.op = 7 → f.args.all Fm.lit = false) : f.lits = none := by
  unfold Fm.lits; rw [if_neg (by rw [h]; exact Bool.false_ne_true), if_neg (fun h1 => by rw [h7 h1.1] at h1; exact Bool.false_ne_true h1.2)]
theorem all_step {α : Type} {p : α → Bool} {l : List α} {k : Nat} (h : k < l.length) : (l.take (k + 1)).all p = ((l.take k).all p && p l[k]) := by
  rw [List.take_succ_eq_append_getElem h, List.all_append]; simp
theorem all_stop {α : Type} {p : α → Bool} {l : List α} {k : Nat} (h : k < l.length) (hp : p l[k] = false) : l.all p = false := by
  cases h2 : l.all p with
  | false => rfl
  | true => have := List.all_eq_true.1 h2 l[k] (List.getElem_mem h); rw [hp] at this; cases this
end Go.Proofs.Ytnclgkdpafhogaa
namespace Go.Proofs.Ytnclgkdpafhogaa
open Go.ChangeShapes Go.WideShapes Go.ChangeAt Go.RowKit
theorem own_strs {B : Nat} {w : World} {v : Value} {l : List ByteArray} (hl : ∀ s ∈ l, s.size ≤ 1073741824) (h : w.ownsRow B 9 1 v l.length (l.map Value.string)) : GRow (eltDat 1) 9 B w v (l.map strDat) := by
  refine ⟨l.map fun s => [.string s], by simp, ?_, fun j h1 h2 => ?_⟩
  · have e : (l.map fun s => [Value.string s]).flatten = l.map Value.string := by
      clear h hl
      induction l with
      | nil => rfl
      | cons a l ih => simp only [List.map_cons, List.flatten_cons, ih, List.cons_append, List.nil_append]
    rw [e, List.length_map]; exact h
  · simp only [List.getElem_map]
    exact str_el (hl _ (List.getElem_mem _))
theorem cloneStrs_any {P : Nat → Prop} {l : List ByteArray} {w : World} {a : Option Addr} {c : Nat} (h : IsStrs P w a l) (hl : l.length ≤ 1073741824) :
    Calls Try.prog 66 #[.slice a l.length c] w fun e w' => (∃ v, e = .returned v ∧ GRow (eltDat 1) 9 w.heap.size w' v (l.map strDat)) ∧ Ext w w' := by
  have hsz : ∀ s ∈ l, s.size ≤ 1073741824 := fun s hs => by
    obtain ⟨i, hi, rfl⟩ := List.getElem_of_mem hs
    obtain ⟨_, _, _, _, _, hz⟩ := h.look hi
    exact hz
  by_cases h0 : 0 < l.length
  · obtain ⟨b, o, rfl, -⟩ := Dat.Rows.addr h (by simpa using h0)
    have hK := Try.slices_Clone_string b o l.length c l w (Nat.le_refl _) (by omega) (fun j hj => by
      obtain ⟨b', o', e, -, h1, -⟩ := h.look hj
      injection e with e; injection e with e1 e2 _; subst e1; subst e2
      rw [h1, List.getD_eq_getElem?_getD, List.getElem?_eq_getElem hj]; rfl)
    refine hK.mono ?_
    rintro e w' ⟨v, rfl, ho, -, hx⟩
    rw [List.take_length] at ho
    exact ⟨⟨v, rfl, own_strs hsz ho⟩, hx⟩
  · have he := List.eq_nil_of_length_eq_zero (Nat.eq_zero_of_not_pos h0)
    subst he
    cases a with
    | none =>
      refine (Try.slices_Clone_string_nil 0 c w).mono ?_
      rintro e w' ⟨rfl, rfl⟩
      exact ⟨⟨_, rfl, GRow.nil⟩, Below.refl _ _⟩
    | some a =>
      refine (Try.slices_Clone_string_zero a c w).mono ?_
      rintro e w' ⟨v, rfl, ho, -, hx⟩
      exact ⟨⟨v, rfl, own_strs hsz ho⟩, hx⟩
theorem strs_own {B : Nat} {w : World} {v : Value} {l : List ByteArray} (h : GRow (eltDat 1) 9 B w v (l.map strDat)) : ∃ a c, v = .slice a l.length c ∧ l.length ≤ c ∧ IsStrs (fun g => B ≤ g ∧ g < w.heap.size) w a l := by
  obtain ⟨a, c, hv, hc, hd⟩ := GRow.dat (by decide) h
  rw [List.length_map] at hv hc
  exact ⟨a, c, hv, hc, Dat.Rows.mono hd fun g hg hlt => ⟨hg, hlt⟩⟩
set_option maxHeartbeats 16000000 in
set_option maxRecDepth 100000 in
theorem copyFm_any (t : Fm) : ∀ (P : Nat → Prop) (w : World) (x y z u : Value), IsFm P w x y z u t → t.size ≤ 4194304 →
    Calls Try.prog 42 #[.agg #[x, y, z, u]] w fun e w' => (∃ v, e = .returned v ∧ isFm' (fun g => w.heap.size ≤ g) w' v t) ∧ Ext w w' := by
  induction t using Fm.ind with
  | h op vs ts l ih =>
    intro P w x y z u ht hs
    obtain ⟨va, vc, ta, tc, a, c, rfl, rfl, rfl, rfl, ho1, ho2, hvc, htc, hc1, hkv, hkt, hk⟩ := ht.form
    have ho2' := ho2
    simp only [Fm.op, Fm.vars, Fm.terms, Fm.args] at ho1 ho2' ho2 hvc htc hc1 hkv hkt hk ⊢
    simp only [Fm.size] at hs
    have hkl := Fm.length_le_sizes l
    have htl := Ex.length_le_sizes ts
    obtain ⟨i0, hi0, hz0, hz1', hz2'⟩ := info_parts infoEx
    obtain ⟨j0, hj0, jz0, jz1', jz2'⟩ := info_parts infoFm
    have HIH := Lib.hid ih
    clear ih ht
    have HCL := Lib.hid (fun w' (hx : Ext w w') => cloneStrs_any (c := vc) (hkv.ext hx) (by omega))
    clear hkv
    go_enter Try.func42, Try.ntmps42
    go_upto_region 1 with fail
    obtain ⟨W, hW⟩ : ∃ W, W = (w.alloc (.cells #[.int .i64 op, .slice va vs.length vc, .slice ta ts.length tc, .slice a l.length c] 27)).alloc (.cells #[.int .i64 0, .slice none 0 0, .slice none 0 0, .slice none 0 0] 27) := ⟨_, rfl⟩
    have hx : Ext w W := by rw [hW]; exact (ext_alloc _ _).alloc _
    have hz : W.heap.size = w.heap.size + 2 := by rw [hW]; simp
    have hfb : Own W w.heap.size [.int .i64 op, .slice va vs.length vc, .slice ta ts.length tc, .slice a l.length c] := by rw [hW]; exact (own4 w _ _ _ _ _).ext (ext_alloc _ _)
    have hnb : Own W (w.heap.size + 1) [.int .i64 0, .slice none 0 0, .slice none 0 0, .slice none 0 0] := by
      rw [hW]
      have := own4 (w.alloc (.cells #[.int .i64 op, .slice va vs.length vc, .slice ta ts.length tc, .slice a l.length c] 27)) (.int .i64 0) (.slice none 0 0) (.slice none 0 0) (.slice none 0 0) 27
      rw [World.size_alloc] at this; exact this
    rw [← hW]
    clear hW
    obtain ⟨fb, hfbe⟩ : ∃ fb, fb = w.heap.size := ⟨_, rfl⟩
    obtain ⟨nb, hnbe⟩ : ∃ nb, nb = w.heap.size + 1 := ⟨_, rfl⟩
    rw [← hnbe] at hnb
    rw [← hfbe] at hfb
    rw [← hnbe, ← hfbe]
    have hw0 : w.heap.size ≤ fb := by omega
    have hw1 : w.heap.size ≤ nb := by omega
    have hw2 : fb < nb := by omega
    have hw3 : nb < W.heap.size := by omega
    clear hnbe hfbe hz
    obtain ⟨⟨b0, -⟩, ⟨b1, -⟩, ⟨b2, -⟩, ⟨b3, -⟩⟩ := hfb.cells4
    have hfl := hfb.lt
    go_cut [3] from 8 to 13 (fun xx wx => ∃ (ob : Nat) (va' : Option Addr) (vc' : Nat), xx = .pointer (some ⟨ob, 0, none⟩) ∧ Own wx ob [.int .i64 op, .slice va' vs.length vc', .slice none 0 0, .slice none 0 0] ∧ vs.length ≤ vc' ∧ W.heap.size ≤ ob ∧ IsStrs (fun g => W.heap.size ≤ g ∧ g ≠ ob ∧ g < wx.heap.size) wx va' vs ∧ Ext W wx)
    case first =>
      go_region_law ((go_simp; go_at_call 66; refine (HCL.out _ (by first | exact Ext.drew hx | exact (Ext.drew hx).alloc _ | exact Ext.drew (hx.alloc _))).mono ?_; rintro e w1 ⟨⟨v, rfl, hv⟩, hx1⟩; (obtain ⟨va', vc', rfl, hvc', hvs'⟩ := strs_own hv); (have hE : Ext W w1 := (by first | exact Ext.trans (Ext.drew (Below.refl _ _)) hx1 | exact Ext.trans (Ext.drew (ext_alloc _ _)) hx1)); (have e0 := hE.cell b0); (have hl1 : fb < w1.heap.size := cell_lt e0); (have e1 := hE.cell b1); (try (have hb := ((own4 W (.int .i64 0) (.slice none 0 0) (.slice none 0 0) (.slice none 0 0) 27).ext (Ext.trans (Ext.drew (Below.refl _ _)) hx1)); have hbl := hb.lt; (obtain ⟨y0, z0⟩ := hb 0 _ rfl); (obtain ⟨y1, z1⟩ := hb 1 _ rfl); (obtain ⟨y2, z2⟩ := hb 2 _ rfl); (obtain ⟨y3, z3⟩ := hb 3 _ rfl)))))
      all_goals
        go_wp2_with fail
        go_meet
        first
          | (have hb' := hb
             have hch := chg_set4 w1 W.heap.size (.int .i64 op) (.slice va' vs.length vc') (.slice none 0 0) (.slice none 0 0)
             have hch' := hch.size
             exact ⟨W.heap.size, va', vc', rfl, own_set4 hb _ _ _ _, hvc', Nat.le_refl _, Dat.Rows.mono (Dat.Rows.chg hvs' hch (fun g hg => by have h1 := hg.1; simp at h1 ⊢; omega)) (fun g hg _ => by have h1 := hg.1; simp at h1; omega), Chg.ext hE hch (by simp)⟩)
          | exact ⟨w1.heap.size, va', vc', rfl, own4 w1 _ _ _ _ _, hvc', hE.size, Dat.Rows.ext (Dat.Rows.mono hvs' fun g hg _ => ⟨by have h1 : W.heap.size ≤ g := hg.1; omega, by omega, by simp; omega⟩) (ext_alloc _ _), hE.alloc _⟩
    case rest =>
      generalize wc = W0 at hcut ⊢
      obtain ⟨ob, va', vc', rfl, ho, hvc', hobW, hvs', hxW⟩ := hcut
      have hx0 := hx.trans hxW
      have hf0 := hfb.ext hxW
      have hn0 := hnb.ext hxW
      have hob0 := ho.lt
      have hobn : ob ≠ nb := by omega
      have hobf : ob ≠ fb := by omega
      have hwob : w.heap.size ≤ ob := by omega
      have hnbl := hn0.lt
      have hfbl := hf0.lt
      have hwW := hx.size
      clear hfb hnb b0 b1 b2 b3 hfl HCL hx
      obtain ⟨-, -, ⟨b2, -⟩, ⟨b3, -⟩⟩ := hf0.cells4
      go_wp2_with fail
      go_loopw [17] (fun i wr => ∃ (k : Nat) (vv : Value), k ≤ ts.length ∧ i = .int .i64 k ∧ GRow (eltDat 3) 67 W0.heap.size wr vv ((ts.take k).map Ex.dat) ∧ Own wr ob [.int .i64 op, .slice va' vs.length vc', vv, .slice none 0 0] ∧ Chg [ob] W0 wr) (fun i _ => ts.length - (intOf i).toNat)
      case atStart => exact ⟨0, _, Nat.zero_le _, rfl, GRow.nil, ho, Chg.refl _ _⟩
      case round =>
        obtain ⟨k, vv, hkk, rfl, hrow, ho2, hch⟩ := hrel
        have hxr : Ext w wr := Chg.ext hx0 hch (by simp; omega)
        have HML : ((ts.take k).map Ex.dat).length = k := by rw [List.length_map, List.length_take]; omega
        obtain ⟨xa, xc, hv, hxc⟩ := hrow.form
        rw [HML] at hv hxc
        subst hv
        have Hml := Lib.hid HML
        clear HML ho b2 b3
        obtain ⟨q2, r2⟩ := ho2 2 _ rfl
        have hWr : W0.heap.size ≤ wr.heap.size := hch.size
        by_cases hlt : k < ts.length
        · have hk1 : (k : Int) < ts.length := by omega
          obtain ⟨b', o', a', c', rfl, hbP, g1, g2, g3, hi⟩ := (IsExs.ext hkt hxr).look hlt
          have Hi := Lib.hid (fun w' (hx : Ext wr w') => copyExpr_any ts[k] P w' _ _ _ (hi.ext hx) (by have := Ex.size_le_sizes hlt; omega))
          have hown : ∀ g, (Value.slice xa k xc).ownBlock = some g → g < wr.heap.size := fun g hg => (hrow.own_ge hg).2
          have hown2 : ∀ g, (Value.slice xa k xc).ownBlock = some g → W0.heap.size ≤ g := fun g hg => (hrow.own_ge hg).1
          go_upto_region 5 with fail
          obtain ⟨V, hV⟩ : ∃ V, V = wr.alloc (.cells #[.bool ts[k].var, .string ts[k].name, .slice a' ts[k].args.length c'] 67) := ⟨_, rfl⟩
          have hxV : Ext wr V := by rw [hV]; exact ext_alloc _ _
          have hbx : Own V wr.heap.size [.bool ts[k].var, .string ts[k].name, .slice a' ts[k].args.length c'] := by rw [hV]; exact own3 wr _ _ _ _
          obtain ⟨e0, -⟩ := hbx 0 _ rfl
          obtain ⟨e1, -⟩ := hbx 1 _ rfl
          obtain ⟨e2, -⟩ := hbx 2 _ rfl
          have p2 := hxV.cell q2
          have y2 := hxV.frozen q2 r2
          rw [← hV]
          clear hV hi g1 g2 g3
          go_region_law ((first
            | (go_simp; go_at_call 67; refine (Hi.out _ (hxV.trans (Ext.drew (Below.refl _ _)))).mono ?_; rintro e w2 ⟨⟨vv2, rfl, x0, x1, x2, rfl, hex⟩, hx2⟩; (have hx2' : Ext V w2 := (Ext.drew (Below.refl _ V)).trans hx2); (obtain ⟨d1, e1', rfl, rfl, rfl, -⟩ := hex.form); (have d5 := hx2'.cell p2); (have d6 := hx2'.frozen p2 y2); (have d7 := (ext_alloc w2 (.cells #[.bool ts[k].var, .string ts[k].name, .slice d1 ts[k].args.length e1'] 67)).cell d5); (try simp only []))
            | (refine step_append_row rfl (.tmp 22) (.tmp 25) _ rfl 67 i0 _ 48 Try.underlying24 hi0 hz0 hz1' hz2' rfl (by decide) W0.heap.size (.slice xa k xc) ((ts.take k).map Ex.dat) (by rfl) wr hrow ((hxV.trans hx2').trans (ext_alloc _ _)) w2.heap.size (by rfl) _ _ (heap_alloc_new _ _) ts[k].dat (ex_el (hex.ext (ext_alloc _ _)) fun g hg hlt => (show W0.heap.size ≤ g ∧ (Value.slice xa k xc).ownBlock ≠ some g from ⟨by have : V.heap.size ≤ g := hg; have := hxV.size; omega, fun e => by have := hown g e; have : V.heap.size ≤ g := hg; have := hxV.size; omega⟩)) (by rw [Hml.out]; simp only [maxLen]; omega) (by rw [Hml.out]; omega) (Nat.le_trans hWr ((hxV.trans hx2').trans (ext_alloc _ _)).size) ?_; intro g cap w4 hrow4 hgrow hat hlt4; (have hfar : (some (⟨ob, 2, none⟩ : Addr).block) ≠ (Value.slice xa k xc).ownBlock := fun e => by have := hown2 _ e.symm; simp only at this; omega); (have hlt5 : (⟨ob, 2, none⟩ : Addr).block < (w2.alloc (.cells #[.bool ts[k].var, .string ts[k].name, .slice d1 ts[k].args.length e1'] 67)).heap.size := Nat.lt_of_lt_of_le (cell_lt d5) (ext_alloc w2 _).size); (have e5 := (hgrow.cell_far ⟨ob, 2, none⟩ hlt5 hfar).trans ((ext_alloc w2 _).cell d5)); (have e6 := (hgrow.frozen_far ⟨ob, 2, none⟩ hlt5 hfar).trans ((ext_alloc w2 _).frozen d5 d6)))))
          all_goals
            go_wp2_with fail
            go_roundw
            case rel =>
              have hx5 := (hxV.trans hx2').trans (ext_alloc w2 (.cells #[.bool ts[k].var, .string ts[k].name, .slice d1 ts[k].args.length e1'] 67))
              have hset := (Chg.refl [ob] w4).setCell (p := ⟨ob, 2, none⟩) (.slice (some ⟨g, 0, none⟩) (k + 1) cap) (.inl (by simp))
              have hnot : ∀ b, b < W0.heap.size → (Value.slice xa k xc).ownBlock ≠ some b := fun b hb e => by have := hown2 _ e; omega
              have hrow5 := hrow4
              rw [Hml.out] at hrow5
              refine ⟨k + 1, .slice (some ⟨g, 0, none⟩) (k + 1) cap, by omega, by go_num, ?_, ?_, (chg_append hch hrow (Nat.le_refl _) hx5 hgrow).trans (by simpa [Hml.out] using hset)⟩
              · rw [List.take_succ_eq_append_getElem hlt, List.map_append]
                exact hrow5.chg hset (by simp; omega)
              · exact (own_append (ho2.ext hx5) hgrow (hnot ob hob0)).set (i := 2) (by simp) (.slice (some ⟨g, 0, none⟩) (k + 1) cap)
            case measure => simp [intOf]; omega
        · have hk1 : ¬ (k : Int) < ts.length := by omega
          have hke : k = ts.length := by omega
          obtain ⟨a1, c1, hv1, hvc1, hd⟩ := GRow.dat (by decide) hrow
          rw [Hml.out] at hv1 hvc1
          injection hv1 with e1 _ e3
          subst e1; subst e3
          have hke' := hke
          subst hke
          rw [List.take_length] at hd
          have hts : IsExs (fun g => W0.heap.size ≤ g ∧ g < wr.heap.size) wr xa ts := by unfold IsExs; rw [Ex.dats_map]; exact Dat.Rows.mono hd fun g hg hlt => ⟨hg, hlt⟩
          have hvs1 : IsStrs (fun g => W.heap.size ≤ g ∧ g ≠ ob ∧ g < W0.heap.size) wr va' vs := Dat.Rows.chg hvs' hch (fun g hg => by simpa using hg.2.1)
          have hn1 := hn0.chg hch (by simpa using Ne.symm hobn)
          have hf1 := hf0.chg hch (by simpa using Ne.symm hobf)
          clear hd hrow hke' Hml hk1 hlt q2 r2 hvs' hn0 hf0
          obtain ⟨-, -, -, ⟨b3, -⟩⟩ := hf1.cells4
          have hob1 := ho2.lt
          obtain ⟨V1, hV1⟩ : ∃ V1, V1 = wr := ⟨_, rfl⟩
          rw [← hV1] at ho2 hch hxr hWr hts hvs1 hn1 hf1 b3 hob1 ⊢
          clear hV1
          go_wp2_with fail
          go_loopw [32] (fun i wr => ∃ (k : Nat) (vv : Value), k ≤ l.length ∧ i = .int .i64 k ∧ GRow (eltDat 4) 27 V1.heap.size wr vv ((l.take k).map Fm.dat) ∧ Own wr ob [.int .i64 op, .slice va' vs.length vc', .slice xa ts.length xc, vv] ∧ Chg [ob] V1 wr) (fun i _ => l.length - (intOf i).toNat)
          case atStart => exact ⟨0, _, Nat.zero_le _, rfl, GRow.nil, ho2, Chg.refl _ _⟩
          case round =>
            obtain ⟨k, vv, hkk, rfl, hrow, ho3, hch3⟩ := hrel
            have hxr3 : Ext w wr := Chg.ext hxr hch3 (by simp; omega)
            have HML : ((l.take k).map Fm.dat).length = k := by rw [List.length_map, List.length_take]; omega
            obtain ⟨za, zc, hv, hzc⟩ := hrow.form
            rw [HML] at hv hzc
            subst hv
            have Hml := Lib.hid HML
            clear HML ho2 b3
            obtain ⟨q2, r2⟩ := ho3 3 _ rfl
            have hWr3 : V1.heap.size ≤ wr.heap.size := hch3.size
            by_cases hlt : k < l.length
            · have hk1 : (k : Int) < l.length := by omega
              obtain ⟨b', o', a1', c1', a2', c2', a', c', rfl, hbP, g1, g2, g3, g4, hi⟩ := (IsFms.ext hk hxr3).look hlt
              have Hi := Lib.hid (fun w' (hx : Ext wr w') => HIH.out _ (List.getElem_mem hlt) P w' _ _ _ _ (hi.ext hx) (by have := Fm.size_le_sizes hlt; omega))
              have hown : ∀ g, (Value.slice za k zc).ownBlock = some g → g < wr.heap.size := fun g hg => (hrow.own_ge hg).2
              have hown2 : ∀ g, (Value.slice za k zc).ownBlock = some g → V1.heap.size ≤ g := fun g hg => (hrow.own_ge hg).1
              go_upto_region 10 with fail
              obtain ⟨V, hV⟩ : ∃ V, V = wr.alloc (.cells #[.int .i64 l[k].op, .slice a1' l[k].vars.length c1', .slice a2' l[k].terms.length c2', .slice a' l[k].args.length c'] 27) := ⟨_, rfl⟩
              have hxV : Ext wr V := by rw [hV]; exact ext_alloc _ _
              have hbx : Own V wr.heap.size [.int .i64 l[k].op, .slice a1' l[k].vars.length c1', .slice a2' l[k].terms.length c2', .slice a' l[k].args.length c'] := by rw [hV]; exact own4 wr _ _ _ _ _
              obtain ⟨⟨e0, -⟩, ⟨e1, -⟩, ⟨e2, -⟩, ⟨e3, -⟩⟩ := hbx.cells4
              have p2 := hxV.cell q2
              have y2 := hxV.frozen q2 r2
              rw [← hV]
              clear hV hi g1 g2 g3 g4
              go_region_law ((first
                | (go_simp; go_at_call 42; refine (Hi.out _ (hxV.trans (Ext.drew (Below.refl _ _)))).mono ?_; rintro e w2 ⟨⟨vv2, rfl, x0, x1, x2, x3, rfl, hex⟩, hx2⟩; (have hx2' : Ext V w2 := (Ext.drew (Below.refl _ V)).trans hx2); (obtain ⟨d1, e1', d2, e2', d3, e3', rfl, rfl, rfl, rfl, -⟩ := hex.form); (have d5 := hx2'.cell p2); (have d6 := hx2'.frozen p2 y2); (have d7 := (ext_alloc w2 (.cells #[.int .i64 l[k].op, .slice d1 l[k].vars.length e1', .slice d2 l[k].terms.length e2', .slice d3 l[k].args.length e3'] 27)).cell d5); (try simp only []))
                | (refine step_append_row rfl (.tmp 37) (.tmp 40) _ rfl 27 j0 _ 80 Try.underlying25 hj0 jz0 jz1' jz2' rfl (by decide) V1.heap.size (.slice za k zc) ((l.take k).map Fm.dat) (by rfl) wr hrow ((hxV.trans hx2').trans (ext_alloc _ _)) w2.heap.size (by rfl) _ _ (heap_alloc_new _ _) l[k].dat (fm_el (hex.ext (ext_alloc _ _)) fun g hg hlt => (show V1.heap.size ≤ g ∧ (Value.slice za k zc).ownBlock ≠ some g from ⟨by have : V.heap.size ≤ g := hg; have := hxV.size; omega, fun e => by have := hown g e; have : V.heap.size ≤ g := hg; have := hxV.size; omega⟩)) (by rw [Hml.out]; simp only [maxLen]; omega) (by rw [Hml.out]; omega) (Nat.le_trans hWr3 ((hxV.trans hx2').trans (ext_alloc _ _)).size) ?_; intro g cap w4 hrow4 hgrow hat hlt4; (have hfar : (some (⟨ob, 3, none⟩ : Addr).block) ≠ (Value.slice za k zc).ownBlock := fun e => by have := hown2 _ e.symm; simp only at this; omega); (have hlt5 : (⟨ob, 3, none⟩ : Addr).block < (w2.alloc (.cells #[.int .i64 l[k].op, .slice d1 l[k].vars.length e1', .slice d2 l[k].terms.length e2', .slice d3 l[k].args.length e3'] 27)).heap.size := Nat.lt_of_lt_of_le (cell_lt d5) (ext_alloc w2 _).size); (have e5 := (hgrow.cell_far ⟨ob, 3, none⟩ hlt5 hfar).trans ((ext_alloc w2 _).cell d5)); (have e6 := (hgrow.frozen_far ⟨ob, 3, none⟩ hlt5 hfar).trans ((ext_alloc w2 _).frozen d5 d6)))))
              all_goals
                go_wp2_with fail
                go_roundw
                case rel =>
                  have hx5 := (hxV.trans hx2').trans (ext_alloc w2 (.cells #[.int .i64 l[k].op, .slice d1 l[k].vars.length e1', .slice d2 l[k].terms.length e2', .slice d3 l[k].args.length e3'] 27))
                  have hset := (Chg.refl [ob] w4).setCell (p := ⟨ob, 3, none⟩) (.slice (some ⟨g, 0, none⟩) (k + 1) cap) (.inl (by simp))
                  have hnot : ∀ b, b < V1.heap.size → (Value.slice za k zc).ownBlock ≠ some b := fun b hb e => by have := hown2 _ e; omega
                  have hrow5 := hrow4
                  rw [Hml.out] at hrow5
                  refine ⟨k + 1, .slice (some ⟨g, 0, none⟩) (k + 1) cap, by omega, by go_num, ?_, ?_, (chg_append hch3 hrow (Nat.le_refl _) hx5 hgrow).trans (by simpa [Hml.out] using hset)⟩
                  · rw [List.take_succ_eq_append_getElem hlt, List.map_append]
                    exact hrow5.chg hset (by simp; omega)
                  · exact (own_append (ho3.ext hx5) hgrow (hnot ob hob1)).set (i := 3) (by simp) (.slice (some ⟨g, 0, none⟩) (k + 1) cap)
                case measure => simp [intOf]; omega
            · have hk1 : ¬ (k : Int) < l.length := by omega
              have hke : k = l.length := by omega
              obtain ⟨a1, c1, hv1, hvc1, hd⟩ := GRow.dat (by decide) hrow
              rw [Hml.out] at hv1 hvc1
              injection hv1 with e1 _ e3
              subst e1; subst e3
              subst hke
              rw [List.take_length] at hd
              have hn3 := hn1.chg hch3 (by simpa using Ne.symm hobn)
              have hts3 : IsExs (fun g => W0.heap.size ≤ g ∧ g < V1.heap.size) wr xa ts := Dat.Rows.chg hts hch3 (fun g hg => by simp; omega)
              have hvs3 : IsStrs (fun g => W.heap.size ≤ g ∧ g ≠ ob ∧ g < W0.heap.size) wr va' vs := Dat.Rows.chg hvs1 hch3 (fun g hg => by simpa using hg.2.1)
              clear hrow Hml hk1 hlt q2 r2 hn1 hts hvs1 hf1
              obtain ⟨⟨m0, -⟩, ⟨m1, -⟩, ⟨m2, -⟩, ⟨m3, -⟩⟩ := ho3.cells4
              obtain ⟨⟨n0, s0⟩, ⟨n1, s1⟩, ⟨n2, s2⟩, ⟨n3, s3⟩⟩ := hn3.cells4
              have hnl3 := hn3.lt
              have HD := Lib.hid (And.intro hd (And.intro hts3 hvs3))
              clear hd hts3 hvs3
              go_wp2_with fail
              obtain ⟨W2, hW2⟩ : ∃ W2, W2 = (((wr.setCell ⟨nb, 0, none⟩ (.int .i64 op)).setCell ⟨nb, 1, none⟩ (.slice va' vs.length vc')).setCell ⟨nb, 2, none⟩ (.slice xa ts.length xc)).setCell ⟨nb, 3, none⟩ (.slice za l.length zc) := ⟨_, rfl⟩
              have hch4 := chg_set4 wr nb (.int .i64 op) (.slice va' vs.length vc') (.slice xa ts.length xc) (.slice za l.length zc)
              have hn4 := own_set4 hn3 (.int .i64 op) (.slice va' vs.length vc') (.slice xa ts.length xc) (.slice za l.length zc)
              rw [← hW2] at hch4 hn4 ⊢
              clear hW2
              obtain ⟨f0, f1, f2, f3⟩ := own_res4 hn4
              have hxf := Chg.ext hxr3 hch4 (by simp; omega)
              obtain ⟨hd, hts3, hvs3⟩ := HD.out
              have hWW := hxW.size
              have hd4 : IsFms (fun g => w.heap.size ≤ g) W2 za l := by unfold IsFms; rw [Fm.dats_map]; exact Dat.Rows.mono (Dat.Rows.chg hd hch4 (fun g hg => by simp; omega)) fun g hg _ => by have := hxr.size; omega
              have ht4 : IsExs (fun g => w.heap.size ≤ g) W2 xa ts := Dat.Rows.mono (Dat.Rows.chg hts3 hch4 (fun g hg => by simp; omega)) fun g hg _ => by have := hx0.size; omega
              have hv4 : IsStrs (fun g => w.heap.size ≤ g) W2 va' vs := Dat.Rows.mono (Dat.Rows.chg hvs3 hch4 (fun g hg => by simp; omega)) fun g hg _ => by omega
              refine bodyPost_ret (v := .agg #[.int .i64 op, .slice va' vs.length vc', .slice xa ts.length xc, .slice za l.length zc]) (by simp [results, Try.results42, go_sem, f0, f1, f2, f3]) rfl ⟨⟨_, rfl, _, _, _, _, rfl, IsFm.mk' ho1 ho2' hvc' hxc hzc hv4 ht4 hd4⟩, hxf⟩
end Go.Proofs.Ytnclgkdpafhogaa
namespace Go.Proofs.Ytnclgkdpafhogaa
open Go.ChangeShapes Go.WideShapes Go.ChangeAt Go.RowKit
theorem eqS {s r : ByteArray} {b : Bool} (h : decide (s = r) = b) : (s.toList == r.toList) = b := (bytes_beq s r).trans h
theorem eqL {s r : ByteArray} {l : List UInt8} {b : Bool} (hl : r.toList = l) (h : decide (s = r) = b) : (s.toList == l) = b := by rw [← hl]; exact eqS h
theorem roleB_eq (s : ByteArray) : roleB s = (decide (s = rAxiom) || (decide (s = rHypo) || (decide (s = rDefi) || (decide (s = rAssu) || (decide (s = rLemma) || (decide (s = rTheo) || (decide (s = rCoro) || (decide (s = rPlain) || (decide (s = rConj) || (decide (s = rNega))))))))))) := by simp [roleB, roleList]
set_option maxHeartbeats 4000000 in
theorem isRole_any (s : ByteArray) (w : World) : Calls Try.prog 75 #[.string s] w fun e w' => e = .returned (.bool (roleB s)) ∧ w = w' := by
  have HR := Lib.hid (roleB_eq s)
  cases h0 : decide (s = rAxiom) with
  | true =>
    have q0 : (s.toList == [97, 120, 105, 111, 109]) = true := eqL (r := rAxiom) (by rw [Go.ByteArray.toList_eq]; rfl) h0
    have HB := Lib.hid (show roleB s = true by rw [HR.out]; simp only [h0, Bool.true_or])
    clear h0
    go_enter Try.func75, Try.ntmps75
    go_wp2_with fail
    go_ret
    exact ⟨ret_bool HB.out.symm, rfl⟩
  | false =>
    have q0 : (s.toList == [97, 120, 105, 111, 109]) = false := eqL (r := rAxiom) (by rw [Go.ByteArray.toList_eq]; rfl) h0
    cases h1 : decide (s = rHypo) with
    | true =>
      have q1 : (s.toList == [104, 121, 112, 111, 116, 104, 101, 115, 105, 115]) = true := eqL (r := rHypo) (by rw [Go.ByteArray.toList_eq]; rfl) h1
      have HB := Lib.hid (show roleB s = true by rw [HR.out]; simp only [h0, h1, Bool.true_or, Bool.false_or])
      clear h0 h1
      go_enter Try.func75, Try.ntmps75
      go_wp2_with fail
      go_ret
      exact ⟨ret_bool HB.out.symm, rfl⟩
    | false =>
      have q1 : (s.toList == [104, 121, 112, 111, 116, 104, 101, 115, 105, 115]) = false := eqL (r := rHypo) (by rw [Go.ByteArray.toList_eq]; rfl) h1
      cases h2 : decide (s = rDefi) with
      | true =>
        have q2 : (s.toList == [100, 101, 102, 105, 110, 105, 116, 105, 111, 110]) = true := eqL (r := rDefi) (by rw [Go.ByteArray.toList_eq]; rfl) h2
        have HB := Lib.hid (show roleB s = true by rw [HR.out]; simp only [h0, h1, h2, Bool.true_or, Bool.false_or])
        clear h0 h1 h2
        go_enter Try.func75, Try.ntmps75
        go_wp2_with fail
        go_ret
        exact ⟨ret_bool HB.out.symm, rfl⟩
      | false =>
        have q2 : (s.toList == [100, 101, 102, 105, 110, 105, 116, 105, 111, 110]) = false := eqL (r := rDefi) (by rw [Go.ByteArray.toList_eq]; rfl) h2
        cases h3 : decide (s = rAssu) with
        | true =>
          have q3 : (s.toList == [97, 115, 115, 117, 109, 112, 116, 105, 111, 110]) = true := eqL (r := rAssu) (by rw [Go.ByteArray.toList_eq]; rfl) h3
          have HB := Lib.hid (show roleB s = true by rw [HR.out]; simp only [h0, h1, h2, h3, Bool.true_or, Bool.false_or])
          clear h0 h1 h2 h3
          go_enter Try.func75, Try.ntmps75
          go_wp2_with fail
          go_ret
          exact ⟨ret_bool HB.out.symm, rfl⟩
        | false =>
          have q3 : (s.toList == [97, 115, 115, 117, 109, 112, 116, 105, 111, 110]) = false := eqL (r := rAssu) (by rw [Go.ByteArray.toList_eq]; rfl) h3
          cases h4 : decide (s = rLemma) with
          | true =>
            have q4 : (s.toList == [108, 101, 109, 109, 97]) = true := eqL (r := rLemma) (by rw [Go.ByteArray.toList_eq]; rfl) h4
            have HB := Lib.hid (show roleB s = true by rw [HR.out]; simp only [h0, h1, h2, h3, h4, Bool.true_or, Bool.false_or])
            clear h0 h1 h2 h3 h4
            go_enter Try.func75, Try.ntmps75
            go_wp2_with fail
            go_ret
            exact ⟨ret_bool HB.out.symm, rfl⟩
          | false =>
            have q4 : (s.toList == [108, 101, 109, 109, 97]) = false := eqL (r := rLemma) (by rw [Go.ByteArray.toList_eq]; rfl) h4
            cases h5 : decide (s = rTheo) with
            | true =>
              have q5 : (s.toList == [116, 104, 101, 111, 114, 101, 109]) = true := eqL (r := rTheo) (by rw [Go.ByteArray.toList_eq]; rfl) h5
              have HB := Lib.hid (show roleB s = true by rw [HR.out]; simp only [h0, h1, h2, h3, h4, h5, Bool.true_or, Bool.false_or])
              clear h0 h1 h2 h3 h4 h5
              go_enter Try.func75, Try.ntmps75
              go_wp2_with fail
              go_ret
              exact ⟨ret_bool HB.out.symm, rfl⟩
            | false =>
              have q5 : (s.toList == [116, 104, 101, 111, 114, 101, 109]) = false := eqL (r := rTheo) (by rw [Go.ByteArray.toList_eq]; rfl) h5
              cases h6 : decide (s = rCoro) with
              | true =>
                have q6 : (s.toList == [99, 111, 114, 111, 108, 108, 97, 114, 121]) = true := eqL (r := rCoro) (by rw [Go.ByteArray.toList_eq]; rfl) h6
                have HB := Lib.hid (show roleB s = true by rw [HR.out]; simp only [h0, h1, h2, h3, h4, h5, h6, Bool.true_or, Bool.false_or])
                clear h0 h1 h2 h3 h4 h5 h6
                go_enter Try.func75, Try.ntmps75
                go_wp2_with fail
                go_ret
                exact ⟨ret_bool HB.out.symm, rfl⟩
              | false =>
                have q6 : (s.toList == [99, 111, 114, 111, 108, 108, 97, 114, 121]) = false := eqL (r := rCoro) (by rw [Go.ByteArray.toList_eq]; rfl) h6
                cases h7 : decide (s = rPlain) with
                | true =>
                  have q7 : (s.toList == [112, 108, 97, 105, 110]) = true := eqL (r := rPlain) (by rw [Go.ByteArray.toList_eq]; rfl) h7
                  have HB := Lib.hid (show roleB s = true by rw [HR.out]; simp only [h0, h1, h2, h3, h4, h5, h6, h7, Bool.true_or, Bool.false_or])
                  clear h0 h1 h2 h3 h4 h5 h6 h7
                  go_enter Try.func75, Try.ntmps75
                  go_wp2_with fail
                  go_ret
                  exact ⟨ret_bool HB.out.symm, rfl⟩
                | false =>
                  have q7 : (s.toList == [112, 108, 97, 105, 110]) = false := eqL (r := rPlain) (by rw [Go.ByteArray.toList_eq]; rfl) h7
                  cases h8 : decide (s = rConj) with
                  | true =>
                    have q8 : (s.toList == [99, 111, 110, 106, 101, 99, 116, 117, 114, 101]) = true := eqL (r := rConj) (by rw [Go.ByteArray.toList_eq]; rfl) h8
                    have HB := Lib.hid (show roleB s = true by rw [HR.out]; simp only [h0, h1, h2, h3, h4, h5, h6, h7, h8, Bool.true_or, Bool.false_or])
                    clear h0 h1 h2 h3 h4 h5 h6 h7 h8
                    go_enter Try.func75, Try.ntmps75
                    go_wp2_with fail
                    go_ret
                    exact ⟨ret_bool HB.out.symm, rfl⟩
                  | false =>
                    have q8 : (s.toList == [99, 111, 110, 106, 101, 99, 116, 117, 114, 101]) = false := eqL (r := rConj) (by rw [Go.ByteArray.toList_eq]; rfl) h8
                    cases h9 : decide (s = rNega) with
                    | true =>
                      have q9 : (s.toList == [110, 101, 103, 97, 116, 101, 100, 95, 99, 111, 110, 106, 101, 99, 116, 117, 114, 101]) = true := eqL (r := rNega) (by rw [Go.ByteArray.toList_eq]; rfl) h9
                      have HB := Lib.hid (show roleB s = true by rw [HR.out]; simp only [h0, h1, h2, h3, h4, h5, h6, h7, h8, h9, Bool.false_or])
                      clear h0 h1 h2 h3 h4 h5 h6 h7 h8 h9
                      go_enter Try.func75, Try.ntmps75
                      go_wp2_with fail
                      go_ret
                      exact ⟨ret_bool HB.out.symm, rfl⟩
                    | false =>
                      have q9 : (s.toList == [110, 101, 103, 97, 116, 101, 100, 95, 99, 111, 110, 106, 101, 99, 116, 117, 114, 101]) = false := eqL (r := rNega) (by rw [Go.ByteArray.toList_eq]; rfl) h9
                      have HB := Lib.hid (show roleB s = false by rw [HR.out]; simp only [h0, h1, h2, h3, h4, h5, h6, h7, h8, h9, Bool.or_false])
                      clear h0 h1 h2 h3 h4 h5 h6 h7 h8 h9
                      go_enter Try.func75, Try.ntmps75
                      go_wp2_with fail
                      go_ret
                      exact ⟨ret_bool HB.out.symm, rfl⟩
end Go.Proofs.Ytnclgkdpafhogaa
namespace Go.Proofs.Ytnclgkdpafhogaa
open Go.ChangeShapes Go.WideShapes Go.ChangeAt Go.RowKit
theorem info_str : (Try.prog.info? 9).map (fun i => (i.zero, i.size, i.bytes)) = some (some (.string ⟨#[]⟩), 1, 16) := by kernel_rfl
/-- what texts look like as cells -/
theorem strs_cells {P : Nat → Prop} {w : World} : ∀ {l : List ByteArray} {b o : Nat}, IsStrs P w (some ⟨b, o, none⟩) l → (∀ j u, (l.map Value.string)[j]? = some u → w.cell? ⟨b, o + j, none⟩ = some u) ∧ ∀ s ∈ l, s.size ≤ 1073741824
  | l, b, o, h => by
    refine ⟨fun j u hj => ?_, fun s hs => ?_⟩
    · obtain ⟨hj1, hj2⟩ := List.getElem?_eq_some_iff.1 hj
      rw [List.length_map] at hj1
      obtain ⟨b', o', he, -, hc, -⟩ := h.look hj1
      injection he with he; injection he with e1 e2 _
      subst e1; subst e2; subst hj2
      rw [List.getElem_map]; exact hc
    · obtain ⟨i, hi, rfl⟩ := List.getElem_of_mem hs
      obtain ⟨_, _, -, -, -, hz⟩ := h.look hi
      exact hz
theorem css_strs {P : Nat → Prop} {w : World} : ∀ {l : List ByteArray} {cs : List (List Value)}, cs.length = l.length → (∀ j (h : j < l.length) (h' : j < cs.length), (eltDat 1).is P w cs[j] [Dat.str l[j]]) → cs.flatten = l.map Value.string ∧ ∀ s ∈ l, s.size ≤ 1073741824
  | [], cs, hl, _ => by
    have : cs = [] := List.eq_nil_of_length_eq_zero hl
    subst this; simp
  | s :: l, cs, hl, h => by
    cases cs with
    | nil => simp at hl
    | cons c cs =>
      obtain ⟨h1, h2⟩ := css_strs (l := l) (cs := cs) (by simpa using hl) (fun j hj hj' => by have := h (j + 1) (by simpa using hj) (by simpa using hj'); simpa using this)
      obtain ⟨h3, h4⟩ := h 0 (by simp) (by simp)
      simp only [List.getElem_cons_zero] at h3 h4
      match c, h3, h4 with
      | [v], _, h4 =>
        obtain ⟨⟨h5, h6⟩, -⟩ := h4
        subst h5
        refine ⟨by rw [List.flatten_cons, h1]; rfl, fun x hx => ?_⟩
        rcases List.mem_cons.1 hx with rfl | hx
        · exact h6
        · exact h2 x hx
theorem StrRow.own {B : Nat} {w : World} {v : Value} {l : List ByteArray} (h : StrRow B w v l) : w.ownsRow B 9 1 v l.length (l.map Value.string) ∧ ∀ s ∈ l, s.size ≤ 1073741824 := by
  obtain ⟨cs, h1, h2, h3⟩ := h
  rw [List.length_map] at h1 h2
  obtain ⟨h4, h5⟩ := css_strs (l := l) (cs := cs) h1 (fun j hj hj' => by have := h3 j (by simpa using hj) hj'; simpa using this)
  rw [h4] at h2
  exact ⟨h2, h5⟩
theorem flat_strs : ∀ l : List ByteArray, (l.map fun s => [Value.string s]).flatten = l.map Value.string
  | [] => rfl
  | s :: l => by rw [List.map_cons, List.flatten_cons, flat_strs l]; rfl
theorem StrRow.of {B : Nat} {w : World} {v : Value} {l : List ByteArray} (h : w.ownsRow B 9 1 v l.length (l.map Value.string)) (hs : ∀ s ∈ l, s.size ≤ 1073741824) : StrRow B w v l := by
  refine ⟨l.map fun s => [.string s], by simp, ?_, fun j hj hj' => ?_⟩
  · rw [flat_strs, List.length_map]; exact h
  · have hj1 : j < l.length := by simpa using hj
    simp only [List.getElem_map]
    exact ⟨rfl, ⟨rfl, hs _ (List.getElem_mem hj1)⟩, trivial⟩
theorem StrRow.nil {B : Nat} {w : World} : StrRow B w (.slice none 0 0) [] := GRow.nil
theorem StrRow.own_ge {B : Nat} {w : World} {v : Value} {l : List ByteArray} (h : StrRow B w v l) {g : Nat} (hg : v.ownBlock = some g) : B ≤ g ∧ g < w.heap.size := GRow.own_ge h hg

/-- the block of one text that is made for an append -/
theorem one_str (w : World) (n : ByteArray) (hn : n.size ≤ 1073741824) : IsStrs (fun _ => True) (w.alloc (.cells #[.string n] 9)) (some ⟨w.heap.size, 0, none⟩) [n] := by
  refine ⟨w.heap.size, 0, [.string n], rfl, trivial, by simp, fun i u hi => ?_, ⟨⟨rfl, hn⟩, trivial⟩, trivial⟩
  have hb := heap_alloc_new w (.cells #[.string n] 9)
  unfold World.cell?
  rw [hb]
  simpa using hi
theorem run_append_strs {B : Nat} {w : World} {v : Value} {l xs : List ByteArray} (hrow : StrRow B w v l) {P : Nat → Prop} {b : Option Addr} {c : Nat} (h : IsStrs P w b xs) (hlen : l.length + xs.length ≤ 8388608) (hbase : B ≤ w.heap.size) (ty : TypeId) :
    ∃ v' w', (Builtin.append_ #[23, 23] ty #[v, .slice b xs.length c]).run Try.prog w = .ok v' w' ∧ StrRow B w' v' (l ++ xs) ∧ RFr w v w' v' := by
  obtain ⟨i0, hi0, hz0, hz1, hz2⟩ := info_parts info_str
  obtain ⟨ho, hs⟩ := hrow.own
  cases b with
  | none =>
    have hx : xs = [] := by
      cases xs with
      | nil => rfl
      | cons s xs => obtain ⟨_, _, he, -⟩ := h.look (i := 0) (by simp); cases he
    subst hx
    refine ⟨v, w, ?_, by rw [List.append_nil]; exact hrow, RFr.refl _ _⟩
    rcases ho.2 with ⟨rfl, h0⟩ | ⟨g, cap, cur, rfl, _, _, hnc, _⟩
    · simp [Builtin.append_, run_underlying Try.underlying23, sizeOf, typeInfo, hi0, Builtin.lenOf, Builtin.firstCells]
    · simp [Builtin.append_, run_underlying Try.underlying23, sizeOf, typeInfo, hi0, Builtin.lenOf, Builtin.firstCells, hnc, storeCells]
  | some a =>
    have hnews : (∀ j u, (xs.map Value.string)[j]? = some u → w.cell? (a.add j) = some u) ∧ ∀ s ∈ xs, s.size ≤ 1073741824 := by
      cases xs with
      | nil => exact ⟨fun j u hj => by simp at hj, fun s hs => by cases hs⟩
      | cons s xs =>
        obtain ⟨b', o', he, -⟩ := h.look (i := 0) (by simp)
        injection he with he
        subst he
        obtain ⟨h1, h2⟩ := strs_cells h
        exact ⟨fun j u hj => by rw [add_plain]; exact h1 j u hj, h2⟩
    obtain ⟨v', w', hr, h1, h2, -, h4⟩ := run_append_own_at w B 23 ty 9 i0 _ 1 16 Try.underlying23 hi0 hz0 hz1 hz2 rfl (by decide) v l.length (l.map Value.string) ho a xs.length c (xs.map Value.string) (by simp) hnews.1
      (by intro u hu; obtain ⟨s, -, rfl⟩ := List.mem_map.1 hu; rfl) (by simp only [maxLen]; omega) (by omega) hbase
    refine ⟨v', w', hr, StrRow.of (by rw [List.map_append, List.length_append]; exact h1) (fun s hm => by rcases List.mem_append.1 hm with hm | hm; exact hs s hm; exact hnews.2 s hm), ⟨Chg.of_grown h2 (fun g hg => .inl (by simp [hg])), ?_⟩⟩
    rcases h4 with h4 | h4
    · exact .inl h4
    · refine .inr fun g hg => ?_
      rw [h4] at hg
      injection hg with hg
      omega
theorem wp_append_strs {o : Oper} {a : Act} {w : World} {K : Act → World → Prop} {Q : Exit → Act → World → Prop} (s x : Operand)
    (ho : o.op = .call { callee := .builtin .append, args := #[s, x], argTypes := #[23, 23] }) {B : Nat} {v : Value} {l xs : List ByteArray} (hs : a.eval s = v) (hrow : StrRow B w v l) {P : Nat → Prop} {b : Option Addr} {c : Nat} (hx : a.eval x = .slice b xs.length c) (h : IsStrs P w b xs)
    (hlen : l.length + xs.length ≤ 8388608) (hbase : B ≤ w.heap.size) (hK : ∀ v' w', StrRow B w' v' (l ++ xs) → RFr w v w' v' → K (a.put o.dst v') w') : o.wp Try.prog a w K Q := by
  obtain ⟨v', w', hr, h2, h3⟩ := run_append_strs hrow h hlen hbase o.type (c := c)
  unfold Oper.wp execOp
  simp only [ho, resolve, invoke, builtin, Sem.run_bind, Sem.run_pure, Result.andThen_ok, List.map_toArray, List.map_cons, List.map_nil, hs, hx, hr]
  exact hK v' w' h2 h3
theorem step_append_strs {ops : Array Oper} {o : Oper} {a : Act} {w : World} {K : Act → World → Prop} {Q : Exit → Act → World → Prop} {F : Prop} (hgd : o.guard = none) (s x : Operand)
    (ho : o.op = .call { callee := .builtin .append, args := #[s, x], argTypes := #[23, 23] }) {B : Nat} {v : Value} {l xs : List ByteArray} (hs : a.eval s = v) (hrow : StrRow B w v l) {P : Nat → Prop} {b : Option Addr} {c : Nat} (hx : a.eval x = .slice b xs.length c) (h : IsStrs P w b xs)
    (hlen : l.length + xs.length ≤ 8388608) (hbase : B ≤ w.heap.size) (hK : ∀ v' w', StrRow B w' v' (l ++ xs) → RFr w v w' v' → K (a.put o.dst v') w') : if Region.wanted o (yielded ops a.tmps) = true then Oper.wp Try.prog o a w K Q else F := by
  have hw : Region.wanted o (yielded ops a.tmps) = true := by simp [Region.wanted, hgd]
  rw [if_pos hw]
  exact wp_append_strs s x ho hs hrow hx h hlen hbase hK
end Go.Proofs.Ytnclgkdpafhogaa
namespace Go.Proofs.Ytnclgkdpafhogaa
section
variable {ks r1 r2 r3 r4 r5 r : List Tok} {u1 u3 u5 : Unit} {nm role : ByteArray}
theorem entHead_1 (h1 : mustS sLpar ks = .bad r) : entHead ks = .bad r := by simp [entHead, h1]
theorem entHead_2 (h1 : mustS sLpar ks = .ok u1 r1) (h2 : nameK r1 = .bad r) : entHead ks = .bad r := by simp [entHead, h1, h2]
theorem entHead_3 (h1 : mustS sLpar ks = .ok u1 r1) (h2 : nameK r1 = .ok nm r2) (h3 : mustS sComma r2 = .bad r) : entHead ks = .bad r := by simp [entHead, h1, h2, h3]
theorem entHead_4 (h1 : mustS sLpar ks = .ok u1 r1) (h2 : nameK r1 = .ok nm r2) (h3 : mustS sComma r2 = .ok u3 r3) (h4 : kindK 1 r3 = .bad r) : entHead ks = .bad r := by simp [entHead, h1, h2, h3, h4]
theorem entHead_5 (h1 : mustS sLpar ks = .ok u1 r1) (h2 : nameK r1 = .ok nm r2) (h3 : mustS sComma r2 = .ok u3 r3) (h4 : kindK 1 r3 = .ok role r4) (h5 : mustS sComma r4 = .bad r) : entHead ks = .bad r := by simp [entHead, h1, h2, h3, h4, h5]
theorem entHead_ok (h1 : mustS sLpar ks = .ok u1 r1) (h2 : nameK r1 = .ok nm r2) (h3 : mustS sComma r2 = .ok u3 r3) (h4 : kindK 1 r3 = .ok role r4) (h5 : mustS sComma r4 = .ok u5 r5) : entHead ks = .ok (nm, role, (peekT r3).at') r5 := by simp [entHead, h1, h2, h3, h4, h5]
end
section
variable {l ks r r' k1 : List Tok} {file fr rat : Int} {cnf : Bool} {n : Nat} {nm role : ByteArray} {f : Fm} {nx er : Int} {u u' : Unit}
theorem entR_head (h : entHead ks = .bad r) : entR l file cnf fr n ks = .flt (itemAt l file r) := by unfold entR; rw [h]; rfl
theorem entR_role (h : entHead ks = .ok (nm, role, rat) r) (hr : roleOK cnf role = false) : entR l file cnf fr n ks = .flt ⟨file, rat, 241⟩ := by unfold entR; rw [h, Rd.out_ok, if_pos hr]
theorem entR_next (h : entHead ks = .ok (nm, role, rat) r) (hr : roleOK cnf role = true) (hd : readS l (l.length - r.length : Nat) = (f, nx, er)) : entR l file cnf fr n ks = if er ≠ 0 then .flt ⟨file, (tokOf l nx).at', er⟩
    else (entEnd (l.drop nx.toNat)).out l file fun _ r' => if shapedE cnf f ≠ 0 then .flt ⟨file, fr, shapedE cnf f⟩ else if 200 ≤ n then .flt ⟨file, fr, 3⟩ else .ok (⟨cnf, nm, role, f⟩, r') := by
  unfold entR; rw [h, Rd.out_ok, if_neg (by rw [hr]; decide)]; simp only [hd]
theorem entR_read (h : entHead ks = .ok (nm, role, rat) r) (hr : roleOK cnf role = true) (hd : readS l (l.length - r.length : Nat) = (f, nx, er)) (he : er ≠ 0) : entR l file cnf fr n ks = .flt ⟨file, (tokOf l nx).at', er⟩ := by
  rw [entR_next h hr hd, if_pos he]
theorem entR_end (h : entHead ks = .ok (nm, role, rat) r) (hr : roleOK cnf role = true) (hd : readS l (l.length - r.length : Nat) = (f, nx, 0)) (hb : entEnd (l.drop nx.toNat) = .bad r') : entR l file cnf fr n ks = .flt (itemAt l file r') := by
  rw [entR_next h hr hd, if_neg (fun h => h rfl), hb]; rfl
theorem entR_last (h : entHead ks = .ok (nm, role, rat) r) (hr : roleOK cnf role = true) (hd : readS l (l.length - r.length : Nat) = (f, nx, 0)) (hb : entEnd (l.drop nx.toNat) = .ok u r') : entR l file cnf fr n ks = if shapedE cnf f ≠ 0 then .flt ⟨file, fr, shapedE cnf f⟩ else if 200 ≤ n then .flt ⟨file, fr, 3⟩ else .ok (⟨cnf, nm, role, f⟩, r') := by
  rw [entR_next h hr hd, if_neg (fun h => h rfl), hb]; rfl
theorem entEnd_1 (h : mustS sRpar ks = .bad r) : entEnd ks = .bad r := by simp [entEnd, h]
theorem entEnd_2 (h : mustS sRpar ks = .ok u k1) (h2 : mustS sDot k1 = .bad r) : entEnd ks = .bad r := by simp [entEnd, h, h2]
theorem entEnd_ok (h : mustS sRpar ks = .ok u k1) (h2 : mustS sDot k1 = .ok u' r) : entEnd ks = .ok u' r := by simp [entEnd, h, h2]
end
end Go.Proofs.Ytnclgkdpafhogaa
namespace Go.Proofs.Ytnclgkdpafhogaa
open Go.ChangeShapes Go.WideShapes Go.ChangeAt Go.RowKit
/-- a reader's block: the tokens still to come, the file, what was read -/
def PRd (rb : Nat) (l : List Tok) (w : World) (ks : List Tok) (file : Int) (v : Value) : Prop :=
  Cur rb l w ks ∧ (w.cell? ⟨rb, 2, none⟩ = some (.int .i64 file) ∧ w.frozen? ⟨rb, 2, none⟩ = false) ∧ w.cell? ⟨rb, 3, none⟩ = some v ∧ w.frozen? ⟨rb, 3, none⟩ = false
theorem PRd.kept {rb : Nat} {l ks r : List Tok} {w w' : World} {file : Int} {v : Value} (h : PRd rb l w ks file v) (hk : Kept rb w w') (hc : Cur rb l w' r) : PRd rb l w' r file v :=
  ⟨hc, ⟨hk.cell 2 (by decide) _ h.2.1.1, hk.frozen 2 (by decide) _ _ h.2.1.1 h.2.1.2⟩, hk.cell 3 (by decide) _ h.2.2.1, hk.frozen 3 (by decide) _ _ h.2.2.1 h.2.2.2⟩
theorem PRd.ext {rb : Nat} {l ks : List Tok} {w w' : World} {file : Int} {v : Value} (h : PRd rb l w ks file v) (hx : Ext w w') : PRd rb l w' ks file v := h.kept (Kept.of_ext hx) (h.1.ext hx)
theorem PRd.chg {S : List Nat} {rb : Nat} {l ks : List Tok} {w w' : World} {file : Int} {v : Value} (h : PRd rb l w ks file v) (hx : Chg S w w') (hS : ∀ b ∈ S, rb < b) : PRd rb l w' ks file v :=
  have hn : rb ∉ S := fun hm => by have := hS rb hm; omega
  ⟨h.1.chg hx hS, ⟨hx.cell h.2.1.1 hn, hx.frozen h.2.1.1 hn h.2.1.2⟩, hx.cell h.2.2.1 hn, hx.frozen h.2.2.1 hn h.2.2.2⟩
def faultV (t : Flt) : PanicEntry := { v := .iface 77 (.agg #[.int .i64 t.file, .int .i64 t.at', .int .i64 t.e]), recovered := false }
/-- left by a fault -/
def Faulted (t : Flt) (e : Ending) : Prop := ∃ older : List PanicEntry, e = .panicked (faultV t :: older) ∧ older.all (fun p => !p.goexit) = true

section
variable {rb : Nat} {l ks : List Tok} {w : World} {file : Int} {v : Value}
set_option maxRecDepth 100000 in
set_option maxHeartbeats 1000000 in
theorem place_any (_hl : l.length ≤ 1073741824) (h : PRd rb l w ks file v) {n : Nat} (hn : n < l.length) :
    Calls Try.prog 52 #[.pointer (some ⟨rb, 0, none⟩), .int .i64 n] w fun e w' => e = .returned (.agg #[.int .i64 file, .int .i64 (tokAt l n).at']) ∧ Ext w w' := by
  obtain ⟨⟨hs, a, c, hown, hc, ht⟩, ⟨q2, -⟩, -⟩ := h
  have HT := Lib.hid (tokAt_lt hn)
  obtain ⟨b, o, rfl, hb, t0, t1, t2, hok⟩ := ht.look hn
  have hlt := hown.lt
  obtain ⟨c0, -⟩ := hown 0 _ rfl
  have hn' : (n : Int) < (l.length : Nat) := by omega
  rw [HT.out]
  generalize l[n] = t at *
  have hd1 : decide ((0 : Int) ≤ n) = true := by simp
  clear ht hown HT t0 t1 hok
  obtain ⟨W, hW⟩ : ∃ W, W = w.alloc (.cells #[.int .i64 0, .int .i64 0] 40) := ⟨_, rfl⟩
  have hx : Ext w W := by rw [hW]; exact ext_alloc _ _
  have hnew : Own W w.heap.size [.int .i64 0, .int .i64 0] := by rw [hW]; exact own2 w _ _ _
  replace c0 := hx.cell c0
  replace q2 := hx.cell q2
  replace t2 := hx.cell t2
  have hWs := hx.size
  have hnl := hnew.lt
  obtain ⟨n0, g0⟩ := hnew 0 _ rfl
  obtain ⟨n1, g1⟩ := hnew 1 _ rfl
  go_enter Try.func52, Try.ntmps52
  go_upto_region 1 with fail
  rw [← hW]
  clear hW
  go_still_tail 14, (by kernel_rfl)
  change wpList _ _ _ _ _ W.drew
  go_wp2
  exact bodyPost_ret (v := .agg #[.int .i64 file, .int .i64 t.at']) (by simp [results, Try.results52, go_sem, n0, n1]) rfl ⟨rfl, ext_set (ext_set hx.drew (Nat.le_refl _) _ _) (Nat.le_refl _) _ _⟩
set_option maxRecDepth 100000 in
set_option maxHeartbeats 1000000 in
theorem stop_any (hl : l.length ≤ 1073741824) (h : PRd rb l w ks file v) {n : Nat} (hn : n < l.length) (er : Int) :
    Calls Try.prog 76 #[.pointer (some ⟨rb, 0, none⟩), .int .i64 n, .int .i64 er] w fun e w' => Faulted ⟨file, (tokAt l n).at', er⟩ e ∧ Ext w w' := by
  have H := Lib.hid (place_any hl h hn)
  clear h
  go_enter Try.func76, Try.ntmps76
  go_wp2_with (go_at_call 52; refine (H.out).mono ?_; rintro e w1 ⟨rfl, hx1⟩)
  exact ⟨rfl, ⟨[], rfl, rfl⟩, hx1⟩
theorem nameK_ways (ks : List Tok) : (∃ t r, ks = t :: r ∧ nameK ks = .ok t.text r ∧ (t.named = true ∨ (t.named = false ∧ (t.kind != 5) = false))) ∨ ((peekT ks).named = false ∧ ((peekT ks).kind != 5) = true ∧ nameK ks = .bad ks) := by
  cases ks with
  | nil => exact .inr ⟨rfl, rfl, rfl⟩
  | cons t r =>
    rw [nameK_cons]
    cases hn : t.named with
    | true => exact .inl ⟨t, r, rfl, by simp, .inl hn⟩
    | false =>
      by_cases h5 : t.kind = 5
      · exact .inl ⟨t, r, rfl, by simp [h5], .inr ⟨hn, by rw [h5]; rfl⟩⟩
      · refine .inr ⟨hn, ?_, by simp [h5]⟩
        show (t.kind != 5) = true
        rw [bne_iff_ne]; exact h5
theorem peek_text (ht : ∀ t ∈ ks, t.ok) : (peekT ks).text.size ≤ 1073741824 := by
  cases ks with
  | nil => exact Nat.zero_le _
  | cons t r => exact (ht t (by simp)).2.1
set_option maxRecDepth 100000 in
set_option maxHeartbeats 1000000 in
theorem pname_any (hl : l.length ≤ 1073741824) (hne : 0 < l.length) (h : Cur rb l w ks) :
    Calls Try.prog 73 #[.pointer (some ⟨rb, 0, none⟩)] w fun e w' => Kept rb w w' ∧ match nameK ks with
      | .ok x r => e = .returned (.string x) ∧ Cur rb l w' r
      | .bad r => e = .panicked [wrongV (badAt l r)] ∧ Cur rb l w' ks := by
  have HP := Lib.hid (peek_any hl h)
  have HN := Lib.hid (fun w => named_any (w := w) (peekT ks) (peek_text h.toks))
  have HB := Lib.hid (fun w' (hx : Ext w w') => bad_any hl hne (h.ext hx))
  have HCU := Lib.hid h
  rcases nameK_ways ks with ⟨t, r, rfl, hk, hway⟩ | ⟨h1, h2, hk⟩
  · have HX := Lib.hid (fun w' (hx : Ext w w') => knext_any hl (h.ext hx))
    have he : peekT (t :: r) = t := rfl
    rw [hk]
    rw [he] at HP HN
    clear he hk HB h
    obtain ⟨kd, tx, ta⟩ := t
    have hf0 := field_tok0
    have hf1 := field_tok1
    rcases hway with h1 | ⟨h1, h2⟩
    all_goals
      rw [h1] at HN
      clear h1
      simp only [Tok.vals] at HN HP HX
      try simp only at h2
      go_enter Try.func73, Try.ntmps73
      go_wp2_with (first | (go_at_call 53; refine (HP.out).mono ?_; rintro e w1 ⟨rfl, hx1⟩) | (go_at_call 95; refine (HN.out _).mono ?_; rintro e w2 ⟨rfl, hx2⟩; have hb2 := ((own3 w1 (.int .i64 kd) (.string tx) (.int .i64 ta) 63).ext hx2); have hl2 := hb2.lt; (obtain ⟨r0, -⟩ := hb2 0 _ rfl)) | (go_at_call 96; refine (HX.out _ ((hx1.alloc _).trans hx2)).mono ?_; rintro e w3 ⟨rfl, hc3, hx3⟩))
      go_ret
      exact ⟨(Kept.of_ext ((hx1.alloc _).trans hx2)).trans hx3, rfl, hc3⟩
  · rw [hk]
    generalize peekT ks = t at *
    clear hk h
    obtain ⟨kd, tx, ta⟩ := t
    rw [h1] at HN
    clear h1
    simp only [Tok.vals] at HN HP
    simp only at h2
    go_enter Try.func73, Try.ntmps73
    go_wp2_with (first | (go_at_call 53; refine (HP.out).mono ?_; rintro e w1 ⟨rfl, hx1⟩) | (go_at_call 95; refine (HN.out _).mono ?_; rintro e w2 ⟨rfl, hx2⟩; have hb2 := ((own3 w1 (.int .i64 kd) (.string tx) (.int .i64 ta) 63).ext hx2); have hl2 := hb2.lt; (obtain ⟨r0, -⟩ := hb2 0 _ rfl)) | (go_at_call 56; refine (HB.out _ ((hx1.alloc _).trans hx2)).mono ?_; rintro e w3 ⟨rfl, hx3⟩))
    exact ⟨rfl, Kept.of_ext (((hx1.alloc _).trans hx2).trans hx3), rfl, HCU.out.ext (((hx1.alloc _).trans hx2).trans hx3)⟩
end
end Go.Proofs.Ytnclgkdpafhogaa
