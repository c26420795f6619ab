/- A range over a function, outermost: one law, for iterators that make new memory alone between two rounds and may rely on what a round that goes on has shown. No program is named here. -/
import Derived.RangeFuncNested
import Derived.RangeFuncBound
import Derived.RangeFuncCalls
import Derived.RangeFuncLeaves
import Derived.Test.YtndejiminaopeaaDoorBase
namespace Go.Proofs.YtndejiminaopeaaDoor
open Go.RowKit

abbrev FW : Fence := Fence.wide

theorem grown_of_below {A B : World} (h : Below A.heap.size A B) : A.grownBy B none := ⟨h.os, h.tape, h.output, h.size, fun k hk _ => h.block k hk⟩
theorem below_of_grown {A B : World} (h : A.grownBy B none) : Below A.heap.size A B := ⟨h.os, h.tape, h.output, h.size, fun k hk => h.block k hk (by simp)⟩

/-- What abides new blocks, and the turn of a block from n on that holds no cells. -/
def Abide (n : Nat) (J : World → Prop) : Prop :=
  ∀ A B row, J A → A.grownBy B row → (∀ r, row = some r → n ≤ r ∧ ∃ o : Obj, A.heap[r]? = some o ∧ o.isCells = false) → J B
theorem Abide.put {n : Nat} {J : World → Prop} (h : Abide n J) {W : World} {l : Nat} {o : Obj} (o' : Obj) (hs : J W) (hB : n ≤ l) (hl : W.heap[l]? = some o) (ho : o.isCells = false) : J (W.putObj l o') :=
  h W _ (some l) hs (grownBy_putObj' W l o') (fun r e => by cases e; exact ⟨hB, o, hl, ho⟩)
theorem Abide.alloc {n : Nat} {J : World → Prop} (h : Abide n J) {W : World} (o : Obj) (hs : J W) : J (W.alloc o) :=
  h W _ none hs (World.grownBy_alloc W o none) (fun r e => by cases e)
theorem Abide.below {n : Nat} {J : World → Prop} (h : Abide n J) {A B : World} (hs : J A) (hb : Below A.heap.size A B) : J B :=
  h A B none hs (grown_of_below hb) (fun r e => by cases e)
theorem Abide.and {n : Nat} {J K : World → Prop} (h : Abide n J) (k : Abide n K) : Abide n (fun W => J W ∧ K W) := fun A B row hs hg hr => ⟨h A B row hs.1 hg hr, k A B row hs.2 hg hr⟩
theorem Abide.pure (n : Nat) (p : Prop) : Abide n (fun _ => p) := fun _ _ _ hs _ _ => hs
/-- A block of cells lies as it lay. -/
theorem Abide.block (n b : Nat) (c : Array Value) (T : TypeId) (fr : Nat × Nat) : Abide n (fun W => W.heap[b]? = some (.cells c T fr)) := fun A B row hs hg hr =>
  (hg.block b (lt_of_heap hs) (fun e => by obtain ⟨_, o, ho, hc⟩ := hr b e.symm; rw [hs] at ho; cases ho; cases hc)).trans hs
/-- What lay below n lies as it lay. -/
theorem Abide.low (n : Nat) (w : World) : Abide n (fun W => Below n w W ∧ n ≤ W.heap.size) := fun A B row hs hg hr =>
  ⟨hs.1.grown hg hs.2 (fun k e => (hr k e).1), Nat.le_trans hs.2 hg.size⟩
theorem Abide.owns (n : Nat) (base : Nat) (e : TypeId) (size : Nat) (v : Value) (k : Nat) (xs : List Value) : Abide n (fun W => W.ownsRow base e size v k xs) := fun A B row hs hg hr => by
  refine hs.kept hg ?_
  cases hv : v.ownBlock with
  | none => exact .inl rfl
  | some b =>
    refine .inr fun e' => ?_
    obtain ⟨_, o, ho, hc⟩ := hr b e'.symm
    rcases hs.2 with ⟨rfl, _⟩ | ⟨g, cap, cur, rfl, _, hg', _⟩
    · simp [Value.ownBlock] at hv
    · simp [Value.ownBlock] at hv; subst hv; rw [hg'] at ho; cases ho; cases hc

/-- An iterator's contract: what comes is a row with Pf of each beginning; a round that goes on has shown 'good' of its element, and has kept 'keep'. -/
def IterOk {α : Type} (P : Program) (gf : Nat) (lb : Array Value) (encs : α → Array Value) (good : α → Prop) (Pf S Sp : List α → Prop) (keep : World → World → Prop) (w0 : World) : Prop :=
  ∀ (l : Nat) (J Jx : List α → World → Prop) (W : World), Below w0.heap.size w0 W →
    (∀ pre A B, J pre A → Below A.heap.size A B → J pre B) → (∀ pre A B, Jx pre A → Below A.heap.size A B → Jx pre B) →
    (∀ pre x A, J (pre ++ [x]) A → good x) →
    (∀ pre x A, J pre A → Pf (pre ++ [x]) → YieldAt FW 0 P l (encs x) A fun e B =>
      (e = .returned (.bool true) ∧ J (pre ++ [x]) B ∧ keep A B) ∨ (e = .returned (.bool false) ∧ Jx (pre ++ [x]) B)) →
    J [] W →
    CallsIn FW 0 P gf (#[.func (.yield l) #[] #[]] ++ lb) W fun e W' => (∃ v, e = .returned v) ∧ ((∃ xs, S xs ∧ J xs W') ∨ (∃ pre, Sp pre ∧ Jx pre W'))

theorem keeps_put {n : Nat} {W W' : World} (h : KeepsFrom n W W') {l : Nat} {o : Obj} (hn : n ≤ l) (hl : W.heap[l]? = some o) (ho : o.isCells = false) : W'.heap[l]? = some o := h.same l o hn hl ho

theorem range_wp {α : Type} {P : Program} {g : Operand} {ps : Array Tmp} {assign body : Code} {Q : Exit → Act → World → Prop} {a : Act} {w : World} {gf : Nat} {lb : Array Value}
    (hg : a.eval g = .func (.func gf) #[] lb) (eg : ∀ args w, (callFunc gf args).run P w = .ok (.enter gf args) w)
    {encs : α → Array Value} (hps : ∀ x, (encs x).size = ps.size)
    {good : α → Prop} {Pf S Sp : List α → Prop} {keep : World → World → Prop} {w0 : World} (hseq : IterOk P gf lb encs good Pf S Sp keep w0) (hb0 : Below w0.heap.size w0 w)
    (hkT : ∀ {A B C : World}, keep A B → keep B C → keep A C)
    (hkB : ∀ (W : World) (l : Nat) (o o' : Obj), w.heap.size ≤ l → W.heap[l]? = some o → o.isCells = false → keep W (W.putObj l o'))
    (I : List α → World → Prop) (Ix : Code → List α → World → Prop) (hI : ∀ pre, Abide w.heap.size (I pre)) (hIx : ∀ c pre, Abide w.heap.size (Ix c pre))
    (hgood : ∀ pre x A, I (pre ++ [x]) A → good x) (h0 : I [] w)
    (Ax : List α → α → Act → World → Prop) (hAx : ∀ pre x a', Abide w.heap.size (Ax pre x a'))
    (hassign : ∀ (l : Nat) (pre : List α) (x : α) (W : World) (K : Act → World → Prop), I pre W → Pf (pre ++ [x]) → (∀ a' W', KeepsFrom w.heap.size W W' → keep W W' → Ax pre x a' W' → K a' W') →
      assign.wpIn (FW.inRound l) 0 P (Exit.then K (fun _ _ _ => False)) { tmps := (ps.zip (encs x)).foldl (fun t (p, v) => t.setIfInBounds p v) a.tmps, defers := [] } W)
    (hbody : ∀ (l : Nat) (pre : List α) (x : α) (a' : Act) (W : World), Ax pre x a' W → Pf (pre ++ [x]) → body.wpIn (FW.inRound l) 0 P (ownPostG w.heap.size keep I Ix (pre ++ [x]) W) a' W)
    (hdone : ∀ (D : Nat) (xs : List α) (W : World), w.heap.size ≤ D → S xs → I xs W → W.heap[D]? = some (.deferred (some [])) → Q .normal { a with defers := { target := .collected D, args := #[] } :: a.defers } W)
    (hstop : ∀ (D : Nat) (c : Code) (pre : List α) (W : World), w.heap.size ≤ D → Sp pre → Ix c pre W → W.heap[D]? = some (.deferred (some [])) → c.wpIn FW 0 P Q { a with defers := { target := .collected D, args := #[] } :: a.defers } W) :
    (Code.rangeFunc g ps assign body).wpIn FW 0 P Q a w := by
  refine wpIn_rangeFunc fun fn hfn => ?_
  obtain ⟨rec, hrec⟩ : ∃ rec : LoopState → Option Code → Loop, rec = fun st pe => { state := st, pending := pe, fn, tmps := a.tmps, params := ps, assign, body, defers := w.heap.size } := ⟨_, rfl⟩
  obtain ⟨L, hL⟩ : ∃ L, L = w.heap.size + 1 := ⟨_, rfl⟩
  obtain ⟨W1, hW1⟩ : ∃ W1, (w.alloc (.deferred (some []))).alloc (.loop (rec .ready none)) = W1 := ⟨_, rfl⟩
  have hL1 : W1.heap[L]? = some (.loop (rec .ready none)) := by rw [← hW1]; exact heap_new _ _ _ (by simp [hL])
  have hD1 : W1.heap[w.heap.size]? = some (.deferred (some [])) := by rw [← hW1, heap_old _ _ _ (by simp)]; exact heap_new _ _ _ rfl
  have hI1 : I [] W1 := by rw [← hW1]; exact (hI _).alloc _ ((hI _).alloc _ h0)
  have hb1 : Below w0.heap.size w0 W1 := by
    rw [← hW1]; exact hb0.trans ((((Below.refl _ w).alloc (Nat.le_refl _) _).alloc (by simp) _).mono hb0.size)
  refine ⟨L, [{ target := .collected w.heap.size, args := #[] }], W1, { target := .fn (.func gf) lb, args := #[.func (.yield L) #[] #[]] }, W1, gf, #[.func (.yield L) #[] #[]] ++ lb, W1, ?_, ?_, fun _ _ => trivial, ?_, fun h => by simp [FW, Fence.wide] at h, ?_⟩
  · rw [← hW1, hrec, hL]; exact run_enterLoop_outer _ _ _ _ _
  · simp only [resolve, hg]; simp [go_sem]
  · simp [invoke, go_sem, eg]
  have busy : ∀ {W : World}, W.heap[L]? = some (.loop (rec .ready none)) → (W.putObj L (.loop { rec .ready none with state := .busy })).heap[L]? = some (.loop { rec .ready none with state := .busy }) := fun h => World.putObj_heap_same (lt_of_heap h)
  -- the end of a round, whatever way it is left
  have fin : ∀ (jump : Option Code) (W2 W3 : World), W2.heap[L]? = some (.loop { rec .ready none with state := .busy }) → W2.heap[w.heap.size]? = some (.deferred (some [])) → KeepsFrom w.heap.size W2 W3 →
      (Instr.endRound L jump).run P W3 = .ok (.bool jump.isNone) (W3.putObj L (.loop (rec (if jump.isNone then .ready else .done) jump))) ∧ W3.heap[L]? = some (.loop { rec .ready none with state := .busy }) ∧
      (W3.putObj L (.loop (rec (if jump.isNone then .ready else .done) jump))).heap[L]? = some (.loop (rec (if jump.isNone then .ready else .done) jump)) ∧
      (W3.putObj L (.loop (rec (if jump.isNone then .ready else .done) jump))).heap[w.heap.size]? = some (.deferred (some [])) := fun jump W2 W3 h2 hd hk3 => by
    have hl3 := hk3.same _ _ (by omega) h2 rfl
    have := run_endRound (P := P) jump hl3
    rw [hrec] at this ⊢
    exact ⟨this, by rw [hrec] at hl3; exact hl3, World.putObj_heap_same (lt_of_heap hl3), (World.putObj_heap_other (by omega)).trans (hk3.same _ _ (Nat.le_refl _) hd rfl)⟩
  refine (hseq L (fun pre W => I pre W ∧ W.heap[L]? = some (.loop (rec .ready none)) ∧ W.heap[w.heap.size]? = some (.deferred (some [])))
      (fun pre W => ∃ c, Ix c pre W ∧ W.heap[L]? = some (.loop (rec .done (some c))) ∧ W.heap[w.heap.size]? = some (.deferred (some [])))
      W1 hb1 (fun pre A B h hb => ⟨(hI _).below h.1 hb, below_lt hb h.2.1, below_lt hb h.2.2⟩) (fun pre A B ⟨c, h, h1, h2⟩ hb => ⟨c, (hIx _ _).below h hb, below_lt hb h1, below_lt hb h2⟩)
      (fun pre x A h => hgood pre x A h.1) ?_ ⟨hI1, hL1, hD1⟩).mono ?_
  · rintro pre x W ⟨hi, hl, hd⟩ hpf
    have hy := run_yield (P := P) (args := encs x) hl (by rw [hrec]; exact hps x)
    rw [hrec] at hy
    refine ⟨fn, _, assign, body, hy, roundIn_of_wpIn hfn (hassign L pre x W _ hi hpf ?_)⟩
    clear hy
    intro a' Wa hkf hkp hax
    have hla := hkf.same _ _ (by omega) hl rfl
    have hda := hkf.same _ _ (Nat.le_refl _) hd rfl
    refine ⟨_, run_beginRound hla (by rw [hrec]), ?_⟩
    have hl2 := busy hla
    have hd2 : (Wa.putObj L (.loop { rec .ready none with state := .busy })).heap[w.heap.size]? = some (.deferred (some [])) := (World.putObj_heap_other (by omega)).trans hda
    have hkb := hkB Wa L _ (.loop { rec .ready none with state := .busy }) (by omega) hla rfl
    refine wpIn_mono (hbody L pre x a' _ ((hAx _ _ _).put _ hax (by omega) hla rfl) hpf) ?_
    rintro e a3 W3 hp
    cases e with
    | normal =>
      obtain ⟨hk3, hkp3, hi3⟩ := hp
      obtain ⟨hr, hl3, hl4, hd4⟩ := fin none _ W3 hl2 hd2 hk3
      exact ⟨_, _, hr, .inl ⟨rfl, ⟨(hI _).put _ hi3 (by omega) hl3 rfl, hl4, hd4⟩, hkT hkp (hkT hkb (hkT hkp3 (hkB _ _ _ _ (by omega) hl3 rfl)))⟩⟩
    | ret =>
      obtain ⟨hk3, hi3⟩ := hp
      obtain ⟨hr, hl3, hl4, hd4⟩ := fin (some .ret) _ W3 hl2 hd2 hk3
      exact ⟨_, _, hr, .inr ⟨rfl, .ret, (hIx _ _).put _ hi3 (by omega) hl3 rfl, hl4, hd4⟩⟩
    | exit id =>
      obtain ⟨hk3, hi3⟩ := hp
      obtain ⟨hr, hl3, hl4, hd4⟩ := fin (some (.exit id)) _ W3 hl2 hd2 hk3
      exact ⟨_, _, hr, .inr ⟨rfl, .exit id, (hIx _ _).put _ hi3 (by omega) hl3 rfl, hl4, hd4⟩⟩
    | goto t =>
      obtain ⟨hk3, hi3⟩ := hp
      obtain ⟨hr, hl3, hl4, hd4⟩ := fin (some (.goto t)) _ W3 hl2 hd2 hk3
      exact ⟨_, _, hr, .inr ⟨rfl, .goto t, (hIx _ _).put _ hi3 (by omega) hl3 rfl, hl4, hd4⟩⟩
    | panic ch => exact hp.elim
    | outgrown => exact hp.elim
  · rintro e W2 ⟨⟨v, rfl⟩, (⟨xs, hS, hi, hl, hd⟩ | ⟨pre, hSp, c, hi, hl, hd⟩)⟩
    · exact ⟨none, _, by have := run_endLoop (P := P) hl (by rw [hrec]; simp); rw [hrec] at this; exact this, hdone _ xs _ (Nat.le_refl _) hS ((hI _).put _ hi (by omega) hl rfl) ((World.putObj_heap_other (by omega)).trans hd)⟩
    · exact ⟨some c, _, by have := run_endLoop (P := P) hl (by rw [hrec]; simp); rw [hrec] at this; exact this, hstop _ c pre _ (Nat.le_refl _) hSp ((hIx _ _).put _ hi (by omega) hl rfl) ((World.putObj_heap_other (by omega)).trans hd)⟩

/-- A contract, met at a call inside the wide fence; in a round. -/
theorem inCall {P : Program} {f : FuncId} {args : Array Value} {w : World} {R R' : Ending → World → Prop} (h : Calls P f args w R) (hr : ∀ e w', R e w' → R' e w') : FW.fn f ∧ FW.depth = none ∧ CallsIn FW 0 P f args w R' :=
  ⟨trivial, rfl, (callsIn_wide.2 h).mono hr⟩
theorem inCallR {P : Program} {l : Nat} {f : FuncId} {args : Array Value} {w : World} {R R' : Ending → World → Prop} (h : Calls P f args w R) (hr : ∀ e w', R e w' → R' e w') : (FW.inRound l).fn f ∧ (FW.inRound l).depth = none ∧ CallsIn (FW.inRound l) 0 P f args w R' :=
  ⟨trivial, rfl, ((callsIn_wide.2 h).mono hr).inRound l⟩
end Go.Proofs.YtndejiminaopeaaDoor
