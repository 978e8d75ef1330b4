/- Ranges over functions: what an iterator is, whatever loop body it hands things to; what a range over it comes to. No condition.
Ranges over functions that write blocks of their own, made by themselves, between two rounds. No condition. -/
import Derived.Test.YtapoedcmhdlpfaaQ19
import Derived.Test.YtapoedcmhdlpfaaQ6
import Derived.Test.YtapoedcmhdlpfaaQ0
import Derived.RangeFuncNested
import Derived.RangeFuncLeaves
namespace Go.Proofs.Ytapoedcmhdlpfaa
open Go.ChangeShapes Go.WideShapes Go.ChangeAt Go.RowKit
/-- the world goes on: what lay there outside S lies as it lay; S' are blocks of S, and new ones -/
structure Mv (S : List Nat) (w : World) (S' : List Nat) (w' : World) : Prop where
  chg : Chg S w w'
  new : ∀ b ∈ S', b ∈ S ∨ (w.heap.size ≤ b ∧ b < w'.heap.size)
theorem Mv.refl (S : List Nat) (w : World) : Mv S w S w := ⟨Chg.refl _ _, fun _ h => .inl h⟩
theorem Mv.of_ext {S : List Nat} {w w' : World} (h : Ext w w') : Mv S w S w' := ⟨Chg.of_ext h, fun _ h => .inl h⟩
theorem Mv.of_chg {S : List Nat} {w w' : World} (h : Chg S w w') : Mv S w S w' := ⟨h, fun _ h => .inl h⟩
theorem Mv.trans {S S' S'' : List Nat} {a b c : World} (h : Mv S a S' b) (k : Mv S' b S'' c) : Mv S a S'' c :=
  ⟨⟨k.chg.os.trans h.chg.os, k.chg.tape.trans h.chg.tape, k.chg.output.trans h.chg.output, Nat.le_trans h.chg.size k.chg.size, fun i hi hs =>
    (k.chg.block i (Nat.lt_of_lt_of_le hi h.chg.size) (fun hm => by rcases h.new i hm with h1 | h1; exact hs h1; omega)).trans (h.chg.block i hi hs)⟩,
   fun i hi => by
    rcases k.new i hi with h1 | h1
    · rcases h.new i h1 with h2 | h2
      · exact .inl h2
      · exact .inr ⟨h2.1, Nat.lt_of_lt_of_le h2.2 k.chg.size⟩
    · exact .inr ⟨Nat.le_trans h.chg.size h1.1, h1.2⟩⟩
theorem Mv.ext_left {S S' : List Nat} {a b c : World} (h : Ext a b) (k : Mv S b S' c) : Mv S a S' c := (Mv.of_ext h).trans k
/-- blocks that were there, and are not of S -/
def Av (S : List Nat) (w : World) (b : Nat) : Prop := b ∉ S ∧ b < w.heap.size
theorem Av.mv {S S' : List Nat} {w w' : World} (h : Mv S w S' w') {b : Nat} (hb : Av S w b) : Av S' w' b :=
  ⟨fun hm => by rcases h.new b hm with h1 | h1; exact hb.1 h1; have := hb.2; omega, Nat.lt_of_lt_of_le hb.2 h.chg.size⟩
theorem Mv.lt {S S' : List Nat} {w w' : World} (h : Mv S w S' w') (hS : ∀ b ∈ S, b < w.heap.size) : ∀ b ∈ S', b < w'.heap.size := fun b hb => by
  rcases h.new b hb with h1 | h1
  · exact Nat.lt_of_lt_of_le (hS b h1) h.chg.size
  · exact h1.2
theorem Mv.cell {S S' : List Nat} {w w' : World} (h : Mv S w S' w') {p : Addr} {v : Value} (hp : w.cell? p = some v) (hb : p.block ∉ S) : w'.cell? p = some v := h.chg.cell hp hb
theorem Mv.out {S S' : List Nat} {w w' : World} (h : Mv S w S' w') {p : Addr} {v : Value} (hp : w.cell? p = some v) (hb : p.block ∉ S) : p.block ∉ S' := fun hm => by
  rcases h.new _ hm with h1 | h1
  · exact hb h1
  · have := cell_lt hp; omega
theorem AtTm.mv {S S' : List Nat} {w w' : World} {t : Tm} {x s : Value} (h : AtTm (Av S w) w x s t) (hm : Mv S w S' w') : AtTm (Av S' w') w' x s t :=
  h.of_cells (fun _ hb _ => hb.mv hm) fun _ _ hb hp => hm.cell hp hb.1

theorem chg_putObj (w : World) (l : Nat) (o : Obj) : Chg [l] w (w.putObj l o) :=
  ⟨rfl, rfl, rfl, by simp, fun k _ hs => World.putObj_heap_other (by simpa using hs)⟩

/-- what a loop's rounds do with what is handed to them, all those ahead having come; J true: what the loop's own blocks S hold between two rounds; J false: behind a round that said no -/
def Rounds {α : Type} (l : Nat) (G : α → Array Value → World → Prop) (items : List α) (J : Bool → World → List α → List Nat → Prop) : Prop :=
  ∀ (pre : List α) (x : α) (rest : List α), items = pre ++ x :: rest → ∀ (args : Array Value) (w : World) (S : List Nat), G x args w → J true w pre S → ∀ m, YieldAt (Fw none) m Try.prog l args w fun e w' =>
    ∃ b S', e = .returned (.bool b) ∧ Mv S w S' w' ∧ J b w' (pre ++ [x]) S'

/-- behind a part L of what is handed out -/
def PostR {α : Type} (J : Bool → World → List α → List Nat → Prop) (S : List Nat) (w : World) (pre L : List α) (b : Bool) (w' : World) : Prop :=
  ∃ S', Mv S w S' w' ∧ ((b = true ∧ J true w' (pre ++ L) S') ∨ (b = false ∧ ∃ q, q <+: L ∧ J false w' (pre ++ q) S'))
theorem PostR.one {α : Type} {J : Bool → World → List α → List Nat → Prop} {S S' : List Nat} {w w' : World} {pre : List α} {x : α} {b : Bool} (hm : Mv S w S' w') (h : J b w' (pre ++ [x]) S') : PostR J S w pre [x] b w' := by
  refine ⟨S', hm, ?_⟩
  cases b with
  | true => exact .inl ⟨rfl, h⟩
  | false => exact .inr ⟨rfl, [x], List.prefix_refl _, h⟩
theorem PostR.nil {α : Type} {J : Bool → World → List α → List Nat → Prop} {S S' : List Nat} {w w' : World} {pre : List α} (hm : Mv S w S' w') (h : J true w' pre S') : PostR J S w pre [] true w' :=
  ⟨S', hm, .inl ⟨rfl, by simpa using h⟩⟩
/-- stopped: whatever would have followed -/
theorem PostR.stop {α : Type} {J : Bool → World → List α → List Nat → Prop} {S S' : List Nat} {w w1 w' : World} {pre L M N : List α} (hm : Mv S w S' w1) (h : PostR J S' w1 (pre ++ L) M false w') : PostR J S w pre (L ++ M ++ N) false w' := by
  obtain ⟨S2, h2, h3⟩ := h
  refine ⟨S2, hm.trans h2, .inr ⟨rfl, ?_⟩⟩
  rcases h3 with ⟨h, -⟩ | ⟨-, q, hq, hj⟩
  · cases h
  · exact ⟨L ++ q, by rw [List.append_assoc]; exact (List.prefix_append_right_inj L).2 (hq.trans (List.prefix_append _ _)), by rw [← List.append_assoc]; exact hj⟩
theorem PostR.mk {α : Type} {J : Bool → World → List α → List Nat → Prop} {S S' : List Nat} {w w' : World} {pre L : List α} (hm : Mv S w S' w') (h : J true w' (pre ++ L) S') : PostR J S w pre L true w' := ⟨S', hm, .inl ⟨rfl, h⟩⟩

theorem cell_ne_loop {W : World} {l : Nat} {r : Loop} (h : W.heap[l]? = some (.loop r)) {p : Addr} {v : Value} (hp : W.cell? p = some v) : p.block ≠ l := by
  intro e; subst e; simp [World.cell?, h] at hp
/-- how a round's body is left -/
def roundEnds {α : Type} (J : World → List α → List Nat → Prop) (Jx : Code → World → List α → List Nat → Prop) (pre : List α) (S : List Nat) (w : World) : Exit → Act → World → Prop
  | .normal, _, w' => ∃ S', Mv S w S' w' ∧ J w' pre S'
  | .ret, _, w' => ∃ S', Mv S w S' w' ∧ Jx .ret w' pre S'
  | .exit id, _, w' => ∃ S', Mv S w S' w' ∧ Jx (.exit id) w' pre S'
  | .goto t, _, w' => ∃ S', Mv S w S' w' ∧ Jx (.goto t) w' pre S'
  | _, _, _ => False

end Go.Proofs.Ytapoedcmhdlpfaa
namespace Go.Proofs.Ytapoedcmhdlpfaa
open Go.ChangeShapes Go.WideShapes Go.ChangeAt Go.RowKit
/-- an iterator that writes blocks that it makes itself: it hands out items, in order, till told to stop -/
def IterN {α : Type} (gf : FuncId) (lb : Array Value) (items : List α) (G : α → Array Value → World → Prop) (D : List Nat → World → Prop) : Prop :=
  ∀ (l : Nat) (J : Bool → World → List α → List Nat → Prop) (W : World) (S0 : List Nat), D S0 W → (∀ b ∈ S0, b < W.heap.size) → J true W [] S0 →
    (∀ b w w' t S T, (∀ x ∈ T, W.heap.size ≤ x ∧ x ∉ S) → J b w t S → Chg T w w' → J b w' t S) → Rounds l G items J →
    ∀ m, CallsIn (Fw none) m Try.prog gf (#[.func (.yield l) #[] #[]] ++ lb) W fun e w' => (∃ v, e = .returned v) ∧ ∃ b, PostR J S0 W [] items b w'

set_option maxHeartbeats 1000000 in
theorem wpIn_rangeFunc_new {α : Type} {g : Operand} {ps : Array Tmp} {assign body : Code} {Q : Exit → Act → World → Prop} {a : Act} {w : World} {n : Nat}
    {gf : Nat} {lb : Array Value} (hg : a.eval g = .func (.func gf) #[] lb) (eg : ∀ args w, (callFunc gf args).run Try.prog w = .ok (.enter gf args) w)
    {items : List α} {G : α → Array Value → World → Prop} {D : List Nat → World → Prop} (hit : IterN gf lb items G D)
    (hps : ∀ x args w, G x args w → args.size = ps.size) (S0 : List Nat) (J : World → List α → List Nat → Prop) (Jx : Code → World → List α → List Nat → Prop)
    (hD : ∀ w', Ext w w' → D (w.heap.size :: (w.heap.size + 1) :: S0) w') (hS0 : ∀ b ∈ S0, b < w.heap.size) (h0 : J w [] S0)
    (hJ : ∀ w1 w2 s S, (∀ b ∈ S, b ≠ w.heap.size + 1) → J w1 s S → Chg [w.heap.size + 1] w1 w2 → J w2 s S)
    (hJx : ∀ c w1 w2 s S, (∀ b ∈ S, b ≠ w.heap.size + 1) → Jx c w1 s S → Chg [w.heap.size + 1] w1 w2 → Jx c w2 s S)
    (hJn : ∀ w1 w2 s S T, (∀ x ∈ T, w.heap.size + 2 ≤ x ∧ x ∉ S) → J w1 s S → Chg T w1 w2 → J w2 s S) (hJxn : ∀ c w1 w2 s S T, (∀ x ∈ T, w.heap.size + 2 ≤ x ∧ x ∉ S) → Jx c w1 s S → Chg T w1 w2 → Jx c w2 s S)
    (hbody : ∀ pre x rest, items = pre ++ x :: rest → ∀ (args : Array Value) (W : World) (S : List Nat) (m : Nat), G x args W → J W pre S → (∀ b ∈ S, b ≠ w.heap.size ∧ b ≠ w.heap.size + 1) → w.heap.size + 1 < W.heap.size →
      assign.wpIn (Fw (some (w.heap.size + 1))) m Try.prog (Exit.then (fun a1 W1 => ∀ W2, Chg [w.heap.size + 1] W1 W2 → (∀ p v, W1.cell? p = some v → W2.cell? p = some v) → Mv S W S W1 ∧
        body.wpIn (Fw (some (w.heap.size + 1))) m Try.prog (roundEnds J Jx (pre ++ [x]) S W2) a1 W2) (fun _ _ _ => False))
        { tmps := (ps.zip args).foldl (fun t (p, v) => t.setIfInBounds p v) a.tmps, defers := [] } W)
    (hdone : ∀ (W : World) (S' : List Nat), Mv S0 w S' W → J W items S' → W.heap[w.heap.size]? = some (.deferred (some [])) → Q .normal { a with defers := { target := .collected w.heap.size, args := #[] } :: a.defers } W)
    (hstop : ∀ (c : Code) (q : List α) (W : World) (S' : List Nat), q <+: items → Mv S0 w S' W → Jx c W q S' → W.heap[w.heap.size]? = some (.deferred (some [])) → c.wpIn (Fw none) n Try.prog Q { a with defers := { target := .collected w.heap.size, args := #[] } :: a.defers } W) :
    (Code.rangeFunc g ps assign body).wpIn (Fw none) n Try.prog Q a w := by
  refine wpIn_rangeFunc ?_
  intro fn hfn
  obtain ⟨rec, hrec⟩ : ∃ rec : LoopState → Option Code → Loop, rec = fun st pe => { state := st, pending := pe, fn, tmps := a.tmps, params := ps, assign, body, defers := w.heap.size } := ⟨_, rfl⟩
  obtain ⟨W1, hW1⟩ : ∃ W1, (w.alloc (.deferred (some []))).alloc (.loop (rec .ready none)) = W1 := ⟨_, rfl⟩
  have hL1 : W1.heap[w.heap.size + 1]? = some (.loop (rec .ready none)) := by
    rw [← hW1]; have := World.alloc_heap_new (w.alloc (.deferred (some []))) (.loop (rec .ready none)); rwa [World.size_alloc] at this
  have hK1 : W1.heap[w.heap.size]? = some (.deferred (some [])) := by
    rw [← hW1]; exact (Below.heap_alloc _ _ _ (by simp)).trans (World.alloc_heap_new w _)
  have hx1 : Ext w W1 := by rw [← hW1]; exact (ext_alloc _ _).trans (ext_alloc _ _)
  have hs1 : W1.heap.size = w.heap.size + 2 := by rw [← hW1]; simp
  refine ⟨w.heap.size + 1, [{ target := .collected w.heap.size, args := #[] }], W1, { target := .fn (.func gf) lb, args := #[.func (.yield (w.heap.size + 1)) #[] #[]] }, W1, gf,
    #[.func (.yield (w.heap.size + 1)) #[] #[]] ++ lb, W1, ?_, ?_, ?_, ?_, fun h => (by cases h), ?_⟩
  · rw [← hW1, hrec]; exact run_enterLoop_outer _ _ _ _ _
  · simp only [resolve, hg]
    simp [go_sem]
  · intro f' _; trivial
  · simp [invoke, go_sem, eg]
  obtain ⟨K, hKd⟩ : ∃ K : Bool → World → List α → List Nat → Prop, K = fun b W t S => ∃ S' jump, S = w.heap.size :: (w.heap.size + 1) :: S' ∧ jump.isNone = b ∧ (match jump with | none => J W t S' | some c => Jx c W t S') ∧ (∀ b ∈ S', b ≠ w.heap.size ∧ b ≠ w.heap.size + 1) ∧
      W.heap[w.heap.size + 1]? = some (.loop (rec (if jump.isNone then .ready else .done) jump)) ∧ W.heap[w.heap.size]? = some (.deferred (some [])) := ⟨_, rfl⟩
  have hKu : ∀ b W t S, K b W t S ↔ ∃ S' jump, S = w.heap.size :: (w.heap.size + 1) :: S' ∧ jump.isNone = b ∧ (match jump with | none => J W t S' | some c => Jx c W t S') ∧ (∀ b ∈ S', b ≠ w.heap.size ∧ b ≠ w.heap.size + 1) ∧
      W.heap[w.heap.size + 1]? = some (.loop (rec (if jump.isNone then .ready else .done) jump)) ∧ W.heap[w.heap.size]? = some (.deferred (some [])) := fun b W t S => by rw [hKd]
  clear hKd
  have key := hit (w.heap.size + 1) K W1 (w.heap.size :: (w.heap.size + 1) :: S0) (hD W1 hx1) (by intro b hb; simp at hb; rcases hb with rfl | rfl | hb; omega; omega; have := hS0 b hb; omega)
    ((hKu _ _ _ _).2 ⟨S0, none, rfl, rfl, hJn _ _ _ _ [] (by simp) h0 (Chg.of_ext hx1), fun b hb => by have := hS0 b hb; omega, by simpa using hL1, hK1⟩) ?_ ?_ (n - 1)
  · refine key.mono ?_
    rintro e W2 ⟨⟨v, rfl⟩, b, S', hmv, hpost⟩
    have fin : ∀ (b : Bool) (q : List α), K b W2 q S' → ∃ S2 jump, jump.isNone = b ∧ (match jump with | none => J W2 q S2 | some c => Jx c W2 q S2) ∧ (∀ b ∈ S2, b ≠ w.heap.size + 1) ∧
        W2.heap[w.heap.size + 1]? = some (.loop (rec (if jump.isNone then .ready else .done) jump)) ∧ W2.heap[w.heap.size]? = some (.deferred (some [])) ∧ ∀ o, Mv S0 w S2 (W2.putObj (w.heap.size + 1) o) := by
      intro b q hK2
      rw [hKu] at hK2
      obtain ⟨S2, jump, rfl, hj1, hj, hne, hl, hk⟩ := hK2
      refine ⟨S2, jump, hj1, hj, fun b hb => (hne b hb).2, hl, hk, fun o => ?_⟩
      have hm1 := Mv.ext_left hx1 hmv
      refine ⟨⟨hm1.chg.os, hm1.chg.tape, hm1.chg.output, by simpa using hm1.chg.size, fun k hk hs => (World.putObj_heap_other (by omega)).trans (hm1.chg.block k hk (by simp; exact ⟨by omega, by omega, hs⟩))⟩, fun b hb => ?_⟩
      rcases hm1.new b (by simp [hb]) with h1 | h1
      · simp at h1
        rcases h1 with h1 | h1 | h1
        · exact absurd h1 (hne b hb).1
        · exact absurd h1 (hne b hb).2
        · exact .inl h1
      · exact .inr (by simpa using h1)
    rcases hpost with ⟨rfl, hK2⟩ | ⟨rfl, q, hq, hK2⟩
    · obtain ⟨S2, jump, hj1, hj, hne, hl, hk, hmv3⟩ := fin true _ hK2
      cases jump with
      | some c => cases hj1
      | none =>
        exact ⟨none, _, by have := run_endLoop (P := Try.prog) hl (by rw [hrec]; simp); rw [hrec] at this; exact this, hdone _ S2 (hmv3 _) (hJ _ _ _ _ hne (by simpa using hj) (chg_putObj _ _ _)) ((World.putObj_heap_other (by omega)).trans hk)⟩
    · obtain ⟨S2, jump, hj1, hj, hne, hl, hk, hmv3⟩ := fin false _ hK2
      cases jump with
      | none => cases hj1
      | some c =>
        exact ⟨some c, _, by have := run_endLoop (P := Try.prog) hl (by rw [hrec]; simp); rw [hrec] at this; exact this, hstop c q _ S2 hq (hmv3 _) (hJx _ _ _ _ _ hne (by simpa using hj) (chg_putObj _ _ _)) ((World.putObj_heap_other (by omega)).trans hk)⟩
  · intro b w1 w2 t S T hTS hK hx
    rw [hKu] at hK ⊢
    obtain ⟨S', jump, rfl, hb, hj, hne, hl, hk⟩ := hK
    have hl1 := (Array.getElem?_eq_some_iff.1 hl).1
    have hT2 : ∀ x ∈ T, w.heap.size + 2 ≤ x ∧ x ∉ S' := fun x hx => by
      obtain ⟨q1, q2⟩ := hTS x hx
      rw [hs1] at q1
      exact ⟨q1, fun h => q2 (by simp [h])⟩
    refine ⟨S', jump, rfl, hb, ?_, hne, (hx.block _ hl1 (fun h => by have := (hT2 _ h).1; omega)).trans hl, (hx.block _ (by omega) (fun h => by have := (hT2 _ h).1; omega)).trans hk⟩
    cases jump with
    | none => exact hJn _ _ _ _ T hT2 hj hx
    | some c => exact hJxn _ _ _ _ _ T hT2 hj hx
  · intro pre x rest hx args W S hG hK m
    rw [hKu] at hK
    obtain ⟨S', jump, rfl, htn, hj, hne, hl, hk⟩ := hK
    cases jump with
    | some c => cases htn
    | none =>
    have hj : J W pre S' := hj
    have hlt : w.heap.size + 1 < W.heap.size := (Array.getElem?_eq_some_iff.1 hl).1
    have hy := run_yield (P := Try.prog) (args := args) hl (by rw [hrec]; exact hps x args W hG)
    rw [hrec] at hy
    refine ⟨fn, _, assign, body, hy, roundIn_of_wpIn trivial ?_⟩
    refine wpIn_mono (hbody pre x rest hx args W S' m hG hj hne hlt) ?_
    intro e a1 W1' he
    cases e with
    | exit id => exact he.elim
    | goto t => exact he.elim
    | ret => exact he.elim
    | panic ch => exact he.elim
    | outgrown => exact he.elim
    | normal =>
      have he : ∀ W2, Chg [w.heap.size + 1] W1' W2 → (∀ p v, W1'.cell? p = some v → W2.cell? p = some v) → Mv S' W S' W1' ∧ _ := he
      have hm1 := (he W1' (Chg.refl _ _) (fun _ _ h => h)).1
      have hl2 := (hm1.chg.block _ hlt (fun h => (hne _ h).2 rfl)).trans hl
      have hk2 := (hm1.chg.block _ (show w.heap.size < W.heap.size by omega) (fun h => (hne _ h).1 rfl)).trans hk
      have hlt2 := Nat.lt_of_lt_of_le hlt hm1.chg.size
      refine ⟨_, run_beginRound hl2 (by rw [hrec]; rfl), ?_⟩
      obtain ⟨Wb, hWb⟩ : ∃ Wb, Wb = (W1'.putObj (w.heap.size + 1) (.loop { rec .ready none with state := .busy })) := ⟨_, rfl⟩
      have hl3 : Wb.heap[w.heap.size + 1]? = some (.loop { rec .ready none with state := .busy }) := by rw [hWb]; exact World.putObj_heap_same hlt2
      have hk3 : Wb.heap[w.heap.size]? = some (.deferred (some [])) := by rw [hWb]; exact (World.putObj_heap_other (by omega)).trans hk2
      have hcb : Chg [w.heap.size + 1] W1' Wb := by rw [hWb]; exact chg_putObj _ _ _
      have hsb : Wb.heap.size = W1'.heap.size := by rw [hWb]; simp
      have hb := (he _ hcb (fun p v hp => hcb.cell hp (by simpa using cell_ne_loop hl2 hp))).2
      have hWb' : (W1'.putObj (w.heap.size + 1) (.loop { rec (if (none : Option Code).isNone = true then .ready else .done) none with state := .busy })) = Wb := by rw [hWb]; rfl
      rw [hWb']
      clear hWb hWb'
      refine wpIn_mono hb ?_
      rintro e a3 W3 hends
      have fin : ∀ (jump : Option Code) (S3 : List Nat), Mv S' Wb S3 W3 → (match jump with | none => J W3 (pre ++ [x]) S3 | some c => Jx c W3 (pre ++ [x]) S3) → (Instr.endRound (w.heap.size + 1) jump).run Try.prog W3 = .ok (.bool jump.isNone) (W3.putObj (w.heap.size + 1) (.loop (rec (if jump.isNone then .ready else .done) jump))) ∧
          ∃ b S'', Ending.returned (.bool jump.isNone) = .returned (.bool b) ∧ Mv (w.heap.size :: (w.heap.size + 1) :: S') W S'' (W3.putObj (w.heap.size + 1) (.loop (rec (if jump.isNone then .ready else .done) jump))) ∧
            K b (W3.putObj (w.heap.size + 1) (.loop (rec (if jump.isNone then .ready else .done) jump))) (pre ++ [x]) S'' := by
        intro jump S3 hmv hj3
        have hne3 : ∀ b ∈ S3, b ≠ w.heap.size ∧ b ≠ w.heap.size + 1 := fun b hb => by
          rcases hmv.new b hb with h1 | h1
          · exact hne b h1
          · omega
        have hl4 := (hmv.chg.block _ (by omega) (fun h => (hne _ h).2 rfl)).trans hl3
        have hk4 := (hmv.chg.block _ (show w.heap.size < Wb.heap.size by omega) (fun h => (hne _ h).1 rfl)).trans hk3
        have hr := run_endRound (P := Try.prog) jump hl4
        have hlt3 := (Array.getElem?_eq_some_iff.1 hl4).1
        refine ⟨by rw [hr, hrec], jump.isNone, w.heap.size :: (w.heap.size + 1) :: S3, rfl, ?_, ?_⟩
        · have h1 : Chg (w.heap.size :: (w.heap.size + 1) :: S') W Wb := (hm1.chg.mono (by intro k hk; simp [hk])).trans (hcb.mono (by intro k hk; simp at hk; simp [hk]))
          have h2 : Chg (w.heap.size :: (w.heap.size + 1) :: S') W W3 := h1.trans (hmv.chg.mono (by intro k hk; simp [hk]))
          refine ⟨h2.trans ((chg_putObj _ _ _).mono (by intro k hk; simp at hk; simp [hk])), fun b hb => ?_⟩
          simp at hb
          rcases hb with rfl | rfl | hb
          · exact .inl (by simp)
          · exact .inl (by simp)
          · rcases hmv.new b hb with h3 | h3
            · exact .inl (by simp [h3])
            · exact .inr (by have := hm1.chg.size; simp; omega)
        · rw [hKu]
          refine ⟨S3, jump, rfl, rfl, ?_, hne3, ?_, (World.putObj_heap_other (by omega)).trans hk4⟩
          · cases jump with
            | none => exact hJ _ _ _ _ (fun b hb => (hne3 b hb).2) hj3 (chg_putObj _ _ _)
            | some c => exact hJx _ _ _ _ _ (fun b hb => (hne3 b hb).2) hj3 (chg_putObj _ _ _)
          · rw [World.putObj_heap_same hlt3]
      cases e with
      | normal =>
        obtain ⟨S3, hmv, hj3⟩ := hends
        exact ⟨_, _, fin none S3 hmv hj3⟩
      | ret =>
        obtain ⟨S3, hmv, hj3⟩ := hends
        exact ⟨_, _, fin (some .ret) S3 hmv hj3⟩
      | exit id =>
        obtain ⟨S3, hmv, hj3⟩ := hends
        exact ⟨_, _, fin (some (.exit id)) S3 hmv hj3⟩
      | goto tt =>
        obtain ⟨S3, hmv, hj3⟩ := hends
        exact ⟨_, _, fin (some (.goto tt)) S3 hmv hj3⟩
      | panic ch => exact hends.elim
      | outgrown => exact hends.elim
end Go.Proofs.Ytapoedcmhdlpfaa
