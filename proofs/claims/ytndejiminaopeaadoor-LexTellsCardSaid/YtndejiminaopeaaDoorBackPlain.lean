/- LexBack: the plain law: tokens, laid one behind the other, are read again. -/
import Derived.Test.YtndejiminaopeaaDoorQuotePlain
import Derived.Test.YtndejiminaopeaaDoorJoinPlain
import Derived.Test.YtndejiminaopeaaDoorSame
namespace Go.Proofs.YtndejiminaopeaaDoor
open Go

/-- What stands behind a token: nothing, or a byte that ends it and is no bracket's part. -/
def Ends (q : List UInt8) : Prop := ∀ a b, q = a :: b → endsL.contains a = true
theorem parted_of {q : List UInt8} (h : Ends q) : partedL q = true := by
  cases q with
  | nil => rfl
  | cons a b =>
    have := h a b rfl
    have h2 := u8_all (p := fun a => !endsL.contains a || decide (0 ≤ Lib.indexByte endsL a)) (by decide +kernel) a
    simp only [this, Bool.not_true, Bool.false_or] at h2
    exact h2
theorem ends_of {q : List UInt8} (h : partedL q = true) : Ends q := by
  intro a b e
  subst e
  have h1 : decide (0 ≤ Lib.indexByte endsL a) = true := h
  have h2 := u8_all (p := fun a => !decide (0 ≤ Lib.indexByte endsL a) || endsL.contains a) (by decide +kernel) a
  simp only [h1, Bool.not_true, Bool.false_or] at h2
  exact h2
theorem ends_not {a : UInt8} (h : endsL.contains a = true) : digitsL.contains a = false ∧ innerL.contains a = false ∧ a ≠ 63 ∧ a ≠ 61 ∧ a ≠ 62 := by
  have h2 := u8_all (p := fun a => !endsL.contains a || (!digitsL.contains a && !innerL.contains a && a != 63 && a != 61 && a != 62)) (by decide +kernel) a
  simp only [h, Bool.not_true, Bool.false_or, Bool.and_eq_true, bne_iff_ne, Bool.not_eq_true'] at h2
  exact ⟨h2.1.1.1.1, h2.1.1.1.2, h2.1.1.2, h2.1.2, h2.2⟩

/-- A token's bytes. -/
def laidL (k : Nat) (t : List UInt8) : List UInt8 := if k = 0 then [40] else if k = 1 then [41] else if k = 3 then quoteL t else t
/-- What a token is that was read. -/
def IsTok (k : Nat) (t : List UInt8) : Prop :=
  (k = 0 ∧ t = []) ∨ (k = 1 ∧ t = []) ∨ k = 3 ∨ (k = 2 ∧ numB t = true) ∨ (k = 4 ∧ nameB t = true) ∨ (k = 5 ∧ t ∈ signs)

theorem named_take (l : List UInt8) (h : 0 < namedL l) : nameB (l.take (namedL l)) = true := by
  cases l with
  | nil => simp [namedL] at h
  | cons c r =>
    by_cases hc : lettersL.contains c = true
    · obtain ⟨x, q, h1, h2, h3, h4⟩ := runL_split innerL r
      subst h1
      have hn := namedL_is hc h3 h4
      rw [← List.cons_append] at *
      rw [hn]
      by_cases hq : Lib.hasPrefix q [63] = true
      · rw [if_pos hq]
        cases q with
        | nil => simp [Lib.hasPrefix] at hq
        | cons a b =>
          have ha : a = 63 := by simp [Lib.hasPrefix] at hq; exact hq.symm
          subst ha
          have : (c :: x ++ 63 :: b).take ((c :: x).length + 1) = c :: x ++ [63] := by rw [List.take_append, List.take_of_length_le (by omega)]; simp
          rw [this]
          exact nameB_of ⟨c, x, [63], rfl, hc, h3, .inr rfl⟩
      · rw [if_neg hq, Nat.add_zero, List.take_left]
        exact nameB_of ⟨c, x, [], by simp, hc, h3, .inl rfl⟩
    · have : namedL (c :: r) = 0 := by
        unfold namedL
        rw [if_neg (by simp), if_pos (by simp only [List.take_succ_cons, List.take_zero]; rw [runL_cons, if_neg hc])]
      omega
theorem sign_take (l : List UInt8) (h : 0 < signL l) : l.take (signL l) ∈ signs := by
  unfold signL at *
  cases hf : signs.find? (fun x => Lib.hasPrefix l x) with
  | none => rw [hf] at h; simp at h
  | some x =>
    have hp := List.find?_some hf
    obtain ⟨r, hr⟩ := List.isPrefixOf_iff_prefix.1 hp
    simp only
    rw [← hr, List.take_left]
    exact List.mem_of_find?_eq_some hf
theorem int_take (l : List UInt8) (h : 0 < intL l) : numB (l.take (intL l)) = true := by
  unfold intL at *
  simp only at *
  split at h
  · rename_i h1
    rw [if_pos h1]
    split at h
    · rename_i h2
      rw [if_pos h2]; exact h2
    · omega
  · omega
theorem read_tok (l : List UInt8) (h : 0 < (readL l).2.2) : IsTok (readL l).1 (readL l).2.1 := by
  unfold readL at *
  split at h
  · rename_i h0; rw [if_pos h0]; exact .inl ⟨rfl, rfl⟩
  · rename_i h0
    rw [if_neg h0]
    split at h
    · rename_i h1; rw [if_pos h1]; exact .inr (.inl ⟨rfl, rfl⟩)
    · rename_i h1
      rw [if_neg h1]
      split at h
      · rename_i h2
        rw [if_pos h2]
        simp only [rdL, textL] at h2 ⊢
        split at h2
        · rename_i h3; rw [if_pos h3]; exact .inr (.inr (.inl rfl))
        · simp at h2
      · rename_i h2
        rw [if_neg h2]
        split at h
        · rename_i h3; rw [if_pos h3]; exact .inr (.inr (.inr (.inl ⟨rfl, int_take l h3⟩)))
        · rename_i h3
          rw [if_neg h3]
          split at h
          · rename_i h4; rw [if_pos h4]; exact .inr (.inr (.inr (.inr (.inl ⟨rfl, named_take l h4⟩))))
          · rename_i h4
            rw [if_neg h4]
            exact .inr (.inr (.inr (.inr (.inr ⟨rfl, sign_take l h⟩))))
theorem one_tok (l : List UInt8) (h : (oneL l).2.2 ≠ 0) : IsTok (oneL l).1 (oneL l).2.1 := by
  unfold oneL at *
  split at h
  · simp at h
  · rename_i h1
    rw [if_neg h1]
    exact read_tok l (by omega)
theorem items_tok : ∀ (k p : Nat) (l : List UInt8), ∀ x ∈ itemsGo k p l, x.n ≠ 0 → IsTok x.kind x.text := by
  intro k
  induction k with
  | zero => intro p l x hx; cases hx
  | succ k ih =>
    intro p l x hx hn
    rw [itemsGo_succ] at hx
    split at hx
    · cases hx
    · split at hx
      · exact ih _ _ x hx hn
      · split at hx
        · exact ih _ _ x hx hn
        · split at hx
          · simp at hx; subst hx; simp at hn
          · rename_i h1
            rcases List.mem_cons.1 hx with rfl | hx
            · exact one_tok l h1
            · exact ih _ _ x hx hn
theorem toks_tok {l : List UInt8} {a : List Tk} {o : Option Nat} (h : toksL l = (a, o)) : ∀ x ∈ a, IsTok x.kind x.text := by
  unfold toksL at h
  split at h
  · cases h; simp
  · rename_i hf
    cases h
    intro x hx
    obtain ⟨y, hy, rfl⟩ := List.mem_map.1 hx
    have hg := List.find?_eq_none.1 hf y hy
    exact items_tok _ _ _ y hy (by simpa [goodI] using hg)

/-! ### a token's bytes are read -/
theorem sign_read (t : List UInt8) (ht : t ∈ signs) (q : List UInt8) (hq : Ends q) : readL (t ++ q) = (5, t, t.length) := by
  have hd0 : runL digitsL q = 0 := by
    cases q with
    | nil => rfl
    | cons a b => rw [runL_cons, (ends_not (hq a b rfl)).1]; rfl
  have h61 : ∀ a b, q = a :: b → a ≠ 61 ∧ a ≠ 62 := fun a b e => ⟨(ends_not (hq a b e)).2.2.2.1, (ends_not (hq a b e)).2.2.2.2⟩
  obtain ⟨c, r, hcr, hp, hl⟩ : ∃ c r, t = c :: r ∧ plainB c = true ∧ lettersL.contains c = false := by
    simp only [signs, List.mem_cons, List.not_mem_nil, or_false] at ht
    rcases ht with rfl | rfl | rfl | rfl | rfl | rfl | rfl | rfl <;> exact ⟨_, _, rfl, by decide, by decide⟩
  have hint : intL (t ++ q) = 0 := by
    simp only [signs, List.mem_cons, List.not_mem_nil, or_false] at ht
    rcases ht with rfl | rfl | rfl | rfl | rfl | rfl | rfl | rfl <;>
      simp [intL, Lib.trimPrefix, Lib.hasPrefix, runL_cons, digitsL, hd0] <;> simp [digitsL] at hd0 <;> omega
  have hnam : namedL (t ++ q) = 0 := by
    rw [hcr]
    unfold namedL
    rw [if_neg (by simp), if_pos (by simp only [List.cons_append, List.take_succ_cons, List.take_zero]; rw [runL_cons, hl]; rfl)]
  have hsig : signL (t ++ q) = t.length := by
    simp only [signs, List.mem_cons, List.not_mem_nil, or_false] at ht
    rcases ht with rfl | rfl | rfl | rfl | rfl | rfl | rfl | rfl <;>
      (cases q with
       | nil => decide
       | cons a b =>
         have h1 := (h61 a b rfl).1
         have h2 := (h61 a b rfl).2
         simp [signL, signs, List.find?_cons, Lib.hasPrefix, List.isPrefixOf, Ne.symm h1, Ne.symm h2])
  have := read_plain (c := c) (r := r ++ q) hp
  rw [hcr, List.cons_append] at *
  rw [this, hint, hnam, hsig, if_neg (by omega), if_neg (by omega)]
  congr 2
  rw [← List.cons_append]
  exact List.take_left

theorem named_read {t : List UInt8} (h : nameB t = true) {q : List UInt8} (hq : Ends q) : namedL (t ++ q) = t.length := by
  obtain ⟨⟨c, r, x, rfl, hc, hr, hx⟩⟩ := of_nameB h
  rcases hx with rfl | rfl
  · rw [List.append_nil, namedL_is hc hr (fun a b e => (ends_not (hq a b e)).2.1)]
    have : Lib.hasPrefix q [63] = false := by
      cases q with
      | nil => rfl
      | cons a b =>
        have := (ends_not (hq a b rfl)).2.2.1
        show ((63 : UInt8) == a && _) = false
        simp [Ne.symm this]
    rw [this]; simp
  · rw [List.append_assoc, List.singleton_append, namedL_is hc hr (fun a b e => by cases e; exact q_inner)]
    simp [Lib.hasPrefix]
theorem name_read {t : List UInt8} (h : nameB t = true) {q : List UInt8} (hq : Ends q) : readL (t ++ q) = (4, t, t.length) := by
  have hn := named_read h hq
  have h0 : 0 < t.length := List.length_pos_iff.2 (alone_ne h)
  have htk : (t ++ q).take t.length = t := List.take_left
  obtain ⟨⟨c, r, x, e, hc, _, _⟩⟩ := of_nameB h
  rw [List.cons_append] at e
  have e2 : t ++ q = c :: ((r ++ x) ++ q) := by rw [e]; rfl
  rw [e2] at hn htk ⊢
  rw [read_plain (letter_plain c hc).1, int_letter hc, hn, if_neg (by omega), if_pos h0, htk]
theorem laid_read {k : Nat} {t : List UInt8} (h : IsTok k t) {q : List UInt8} (hq : Ends q) : oneL (laidL k t ++ q) = (k, t, (laidL k t).length) := by
  have hpq := parted_of hq
  rcases h with ⟨rfl, rfl⟩ | ⟨rfl, rfl⟩ | rfl | ⟨rfl, hn⟩ | ⟨rfl, hn⟩ | ⟨rfl, hn⟩
  · have : readL (40 :: q) = (0, [], 1) := by
      unfold readL
      simp only [rdL]
      have : brL 40 (40 :: q) = 1 := by simp [brL, runL]
      rw [this]; rfl
    show oneL (40 :: q) = _
    unfold oneL
    rw [this]
    simp [laidL]
  · have : readL (41 :: q) = (1, [], 1) := by
      unfold readL
      simp only [rdL]
      have h1 : brL 40 (41 :: q) = 0 := br_miss (by decide)
      have h2 : brL 41 (41 :: q) = 1 := by simp [brL, runL]
      rw [h1, h2]; rfl
    show oneL (41 :: q) = _
    unfold oneL
    rw [this]
    simp [laidL]
  · exact one_quote t q hpq
  · have hr := read_num hn (q := q) (fun a b e => (ends_not (hq a b e)).1)
    show oneL (t ++ q) = (2, t, t.length)
    unfold oneL
    rw [hr, List.drop_left, hpq]; simp
  · have hr := name_read hn hq
    show oneL (t ++ q) = (4, t, t.length)
    unfold oneL
    rw [hr, List.drop_left, hpq]; simp
  · have hr := sign_read t hn q hq
    show oneL (t ++ q) = (5, t, t.length)
    unfold oneL
    rw [hr, List.drop_left, hpq]; simp
theorem laid_head {k : Nat} {t : List UInt8} (h : IsTok k t) (q : List UInt8) : ∃ c r, laidL k t ++ q = c :: r ∧ blanksL.contains c = false ∧ c ≠ 59 ∧ 0 < (laidL k t).length := by
  rcases h with ⟨rfl, rfl⟩ | ⟨rfl, rfl⟩ | rfl | ⟨rfl, hn⟩ | ⟨rfl, hn⟩ | ⟨rfl, hn⟩
  · exact ⟨40, q, rfl, by decide, by decide, by decide⟩
  · exact ⟨41, q, rfl, by decide, by decide, by decide⟩
  · exact ⟨34, _, rfl, by decide, by decide, by simp [laidL, quoteL]⟩
  · obtain ⟨c, r, e, hp⟩ := num_head hn q
    simp only [plainB, Bool.and_eq_true, bne_iff_ne] at hp
    exact ⟨c, r, e, by simpa using hp.2, hp.1.2, num_ne hn⟩
  · obtain ⟨⟨c, r, x, e, hc, _, _⟩⟩ := of_nameB hn
    have hp := (letter_plain c hc).1
    simp only [plainB, Bool.and_eq_true, bne_iff_ne] at hp
    refine ⟨c, (r ++ x) ++ q, ?_, by simpa using hp.2, hp.1.2, List.length_pos_iff.2 (alone_ne hn)⟩
    show t ++ q = _
    rw [e]; rfl
  · simp only [signs, List.mem_cons, List.not_mem_nil, or_false] at hn
    rcases hn with rfl | rfl | rfl | rfl | rfl | rfl | rfl | rfl <;> exact ⟨_, _, rfl, by decide, by decide, by decide⟩
theorem items_laid {k : Nat} {t : List UInt8} (h : IsTok k t) {q : List UInt8} (hq : Ends q) (p : Nat) :
    itemsGo (laidL k t ++ q).length p (laidL k t ++ q) = ⟨k, t, p, (laidL k t).length⟩ :: itemsGo q.length (p + (laidL k t).length) q := by
  obtain ⟨c, r, e, hb, h59, h0⟩ := laid_head h q
  have ho := laid_read h hq
  have hl : (laidL k t ++ q).length = (r.length) + 1 := by rw [e]; rfl
  rw [hl, itemsGo_succ, if_neg (by rw [e]; simp), if_neg (by rw [e, runL_cons, hb]; simp), if_neg (by rw [e]; simpa using h59), ho, if_neg (show ¬ (laidL k t).length = 0 by omega)]
  simp only [List.drop_left]
  congr 1
  refine itemsGo_fuel _ _ _ _ ?_ (Nat.le_refl _)
  rw [List.length_append] at hl; omega

/-! ### blanks and comments -/
theorem comment_skip {l : List UInt8} (h : l.head? = some 59) (p : Nat) : itemsGo l.length p l = itemsGo (l.drop (lineL l)).length (p + lineL l) (l.drop (lineL l)) := by
  obtain ⟨c, r, rfl⟩ : ∃ c r, l = c :: r := by cases l with | nil => simp at h | cons c r => exact ⟨c, r, rfl⟩
  have hc : c = 59 := by simpa using h
  subst hc
  rw [List.length_cons, itemsGo_succ, if_neg (by simp), if_neg (by rw [runL_cons, if_neg (by decide)]; omega), if_pos h]
  refine itemsGo_fuel _ _ _ _ ?_ (Nat.le_refl _)
  rw [List.length_drop, List.length_cons]
  have := lineL_pos h
  omega
def gapsL : List (List UInt8) := [[32], [9, 9], [13, 10, 32], [32, 59, 32, 40, 110, 111, 32, 34, 32, 10], [59, 59, 10]]
theorem gap_ends {g : List UInt8} (h : g ∈ gapsL) (r : List UInt8) : Ends (g ++ r) := by
  simp only [gapsL, List.mem_cons, List.not_mem_nil, or_false] at h
  rcases h with rfl | rfl | rfl | rfl | rfl <;> (intro a b e; cases e; decide)
theorem gap_skip {g : List UInt8} (h : g ∈ gapsL) (r : List UInt8) (p : Nat) : itemsGo (g ++ r).length p (g ++ r) = itemsGo r.length (p + g.length) r := by
  have bl : ∀ (g : List UInt8) (p : Nat), (∀ c ∈ g, blanksL.contains c = true) → itemsGo (g ++ r).length p (g ++ r) = itemsGo r.length (p + g.length) r := fun g p hg => by
    rw [blank_skip (b := g.length) (by rw [runL_all hg]; omega), List.drop_left]
  simp only [gapsL, List.mem_cons, List.not_mem_nil, or_false] at h
  rcases h with rfl | rfl | rfl | rfl | rfl
  · exact bl _ _ (by decide)
  · exact bl _ _ (by decide)
  · exact bl _ _ (by decide)
  · rw [show ([32, 59, 32, 40, 110, 111, 32, 34, 32, 10] ++ r : List UInt8) = [32] ++ ([59, 32, 40, 110, 111, 32, 34, 32] ++ 10 :: r) from rfl]
    rw [blank_skip (b := 1) (by rw [List.singleton_append, runL_cons, if_pos (by decide)]; omega)]
    rw [show ([32] ++ ([59, 32, 40, 110, 111, 32, 34, 32] ++ 10 :: r) : List UInt8).drop 1 = [59, 32, 40, 110, 111, 32, 34, 32] ++ 10 :: r from rfl]
    rw [comment_skip rfl, lineL_nl, show lineL [59, 32, 40, 110, 111, 32, 34, 32] = 8 by decide +kernel]
    rw [show ([59, 32, 40, 110, 111, 32, 34, 32] ++ 10 :: r : List UInt8).drop 8 = 10 :: r from rfl]
    rw [blank_skip (b := 1) (by rw [runL_cons, if_pos (by decide)]; omega)]
    rfl
  · rw [show ([59, 59, 10] ++ r : List UInt8) = [59, 59] ++ 10 :: r from rfl]
    rw [comment_skip rfl, lineL_nl, show lineL [59, 59] = 2 by decide +kernel]
    rw [show ([59, 59] ++ 10 :: r : List UInt8).drop 2 = 10 :: r from rfl]
    rw [blank_skip (b := 1) (by rw [runL_cons, if_pos (by decide)]; omega)]
    rfl

/-- All, each with a blank behind it; each with a gap ahead of it. -/
def plainL (xs : List Tk) : List UInt8 := xs.flatMap (fun x => laidL x.kind x.text ++ [32])
def wideL (xs : List (List UInt8 × Tk)) : List UInt8 := xs.flatMap (fun x => x.1 ++ laidL x.2.kind x.2.text)
def core (x : Tk) : Nat × List UInt8 := (x.kind, x.text)
theorem plain_items : ∀ (xs : List Tk) (p : Nat), (∀ x ∈ xs, IsTok x.kind x.text) →
    (itemsGo (plainL xs).length p (plainL xs)).all goodI = true ∧ (itemsGo (plainL xs).length p (plainL xs)).map (fun x => core (tkOf x)) = xs.map core := by
  intro xs
  induction xs with
  | nil => intro p _; exact ⟨rfl, rfl⟩
  | cons x r ih =>
    intro p h
    have hx := h x (by simp)
    have e : plainL (x :: r) = laidL x.kind x.text ++ ([32] ++ plainL r) := by simp [plainL]
    obtain ⟨_, _, _, _, _, h0⟩ := laid_head hx []
    have ih2 := ih (p + (laidL x.kind x.text).length + ([32] : List UInt8).length) (fun y hy => h y (by simp [hy]))
    rw [e, items_laid hx (gap_ends (g := [32]) (by simp [gapsL]) _), gap_skip (g := [32]) (by simp [gapsL])]
    refine ⟨?_, ?_⟩
    · rw [List.all_cons, ih2.1, Bool.and_true]; exact decide_eq_true (show (laidL x.kind x.text).length ≠ 0 by omega)
    · rw [List.map_cons, ih2.2]; rfl
theorem wide_items : ∀ (xs : List (List UInt8 × Tk)) (p : Nat), (∀ x ∈ xs, x.1 ∈ gapsL ∧ IsTok x.2.kind x.2.text) →
    Ends (wideL xs) ∧ (itemsGo (wideL xs).length p (wideL xs)).all goodI = true ∧ (itemsGo (wideL xs).length p (wideL xs)).map (fun x => core (tkOf x)) = xs.map (fun x => core x.2) := by
  intro xs
  induction xs with
  | nil => intro p _; exact ⟨fun a b e => (by cases e), rfl, rfl⟩
  | cons x r ih =>
    intro p h
    have hx := h x (by simp)
    have e : wideL (x :: r) = x.1 ++ (laidL x.2.kind x.2.text ++ wideL r) := by simp [wideL]
    obtain ⟨_, _, _, _, _, h0⟩ := laid_head hx.2 []
    have ih2 := ih (p + x.1.length + (laidL x.2.kind x.2.text).length) (fun y hy => h y (by simp [hy]))
    rw [e, gap_skip hx.1, items_laid hx.2 ih2.1]
    refine ⟨gap_ends hx.1 _, ?_, ?_⟩
    · rw [List.all_cons, ih2.2.1, Bool.and_true]; exact decide_eq_true (show (laidL x.2.kind x.2.text).length ≠ 0 by omega)
    · rw [List.map_cons, ih2.2.2]; rfl
theorem toks_of_items {l : List UInt8} (h : (items l).all goodI = true) : toksL l = ((items l).map tkOf, none) :=
  toks_all (fun x hx => by have := List.all_eq_true.1 h x hx; simpa [goodI] using this)
theorem sameL_core (a b : List Tk) : sameL false a b = decide (a.map core = b.map core) := by
  induction a generalizing b with
  | nil => cases b <;> simp [sameL]
  | cons x a ih =>
    cases b with
    | nil => simp [sameL]
    | cons y b =>
      have := ih b
      unfold sameL at this ⊢
      simp only [List.length_cons, List.zip_cons_cons, List.all_cons, List.map_cons] at *
      rw [Bool.eq_iff_iff] at *
      simp [sameT, core] at *
      constructor
      · rintro ⟨h1, ⟨h2, h3⟩, h5⟩
        exact ⟨⟨h2, h3⟩, this.1 ⟨h1, h5⟩⟩
      · rintro ⟨⟨h2, h3⟩, h⟩
        have := this.2 h
        exact ⟨this.1, ⟨h2, h3⟩, this.2⟩
theorem back_plain {xs : List Tk} (h : ∀ x ∈ xs, IsTok x.kind x.text) : ∃ a, toksL (plainL xs) = (a, none) ∧ sameL false a xs = true := by
  have := plain_items xs 0 h
  refine ⟨_, toks_of_items this.1, ?_⟩
  rw [sameL_core, List.map_map]
  exact decide_eq_true this.2
theorem back_wide {xs : List (List UInt8 × Tk)} (h : ∀ x ∈ xs, x.1 ∈ gapsL ∧ IsTok x.2.kind x.2.text) : ∃ a, toksL (wideL xs) = (a, none) ∧ sameL false a (xs.map (·.2)) = true := by
  have := wide_items xs 0 h
  refine ⟨_, toks_of_items this.2.1, ?_⟩
  rw [sameL_core, List.map_map, List.map_map]
  exact decide_eq_true this.2.2
theorem items_sorted : ∀ (k p : Nat) (l : List UInt8), (itemsGo k p l).Pairwise (fun x y => x.pos < y.pos) := by
  intro k
  induction k with
  | zero => intro p l; exact List.Pairwise.nil
  | succ k ih =>
    intro p l
    rw [itemsGo_succ]
    split
    · exact List.Pairwise.nil
    · split
      · exact ih _ _
      · split
        · exact ih _ _
        · split
          · exact List.pairwise_singleton _ _
          · rename_i h
            refine List.pairwise_cons.2 ⟨fun y hy => ?_, ih _ _⟩
            have := (items_pos _ _ _ y hy).1
            show p < y.pos
            omega
theorem toks_sorted {l : List UInt8} {a : List Tk} {o : Option Nat} (h : toksL l = (a, o)) {i : Nat} (h0 : 0 < i) (h1 : i < a.length) : (a[i - 1]'(by omega)).pos < (a[i]'h1).pos := by
  have hs : a.Pairwise (fun x y => x.pos < y.pos) := by
    unfold toksL at h
    split at h
    · cases h; exact List.Pairwise.nil
    · cases h
      exact List.pairwise_map.2 (items_sorted _ _ _)
  exact List.pairwise_iff_getElem.1 hs (i - 1) i (by omega) h1 (by omega)

/-! ### how long a token's text is -/
theorem quotGo_len : ∀ (k : Nat) (l : List UInt8) (n : Nat) (acc : List UInt8), (quotGo k l n acc).1.length ≤ acc.length + l.length := by
  intro k
  induction k with
  | zero => intro l n acc; simp [quotGo]
  | succ k ih =>
    intro l n acc
    cases l with
    | nil => simp [quotGo]
    | cons c r =>
      simp only [quotGo]
      split
      · simp
      · split
        · split
          · simp
          · refine Nat.le_trans (ih _ _ _) ?_
            rw [List.length_append, List.length_drop, List.length_cons, List.length_cons, List.length_nil]
            omega
        · split
          · simp
          · refine Nat.le_trans (ih _ _ _) ?_
            rw [List.length_append, List.length_cons, List.length_cons, List.length_nil]
            omega
theorem read_text (l : List UInt8) : (readL l).2.1.length ≤ l.length := by
  have hq : (quotL l).1.length ≤ l.length := by
    unfold quotL
    refine Nat.le_trans (quotGo_len _ _ _ _) ?_
    simp
  have h : ∀ i, (rdL i l).2.1.length ≤ l.length := fun i => by
    match i with
    | 0 => simp [rdL]
    | 1 => simp [rdL]
    | 2 =>
      simp only [rdL, textL]
      split
      · exact hq
      · simp
    | 3 => simp only [rdL, List.length_take]; omega
    | 4 => simp only [rdL, List.length_take]; omega
    | n + 5 => simp only [rdL, List.length_take]; omega
  unfold readL
  split
  · exact h 0
  · split
    · exact h 1
    · split
      · exact h 2
      · split
        · exact h 3
        · split
          · exact h 4
          · exact h 5
theorem one_text (l : List UInt8) : (oneL l).2.1.length ≤ l.length := by
  unfold oneL
  split
  · exact read_text l
  · exact read_text l
theorem items_text : ∀ (k p : Nat) (l : List UInt8), ∀ x ∈ itemsGo k p l, x.text.length ≤ l.length := by
  intro k
  induction k with
  | zero => intro p l x hx; cases hx
  | succ k ih =>
    intro p l x hx
    have go : ∀ n q, x ∈ itemsGo k q (l.drop n) → x.text.length ≤ l.length := fun n q h => by
      have := ih _ _ x h
      rw [List.length_drop] at this
      omega
    rw [itemsGo_succ] at hx
    split at hx
    · cases hx
    · split at hx
      · exact go _ _ hx
      · split at hx
        · exact go _ _ hx
        · split at hx
          · simp at hx; subst hx; exact one_text l
          · rcases List.mem_cons.1 hx with rfl | hx
            · exact one_text l
            · exact go _ _ hx
theorem toks_text {l : List UInt8} {a : List Tk} {o : Option Nat} (h : toksL l = (a, o)) : ∀ x ∈ a, x.text.length ≤ l.length := by
  unfold toksL at h
  split at h
  · cases h; simp
  · cases h
    intro x hx
    obtain ⟨y, hy, rfl⟩ := List.mem_map.1 hx
    exact items_text _ _ _ y hy
theorem laid_len (x : Tk) : (laidL x.kind x.text).length ≤ 4 * x.text.length + 2 := by
  unfold laidL
  split
  · simp
  · split
    · simp
    · split
      · have := bodyL_len x.text
        simp [quoteL]; omega
      · omega
theorem kind_le {k : Nat} {t : List UInt8} (h : IsTok k t) : k ≤ 5 := by
  rcases h with ⟨rfl, _⟩ | ⟨rfl, _⟩ | rfl | ⟨rfl, _⟩ | ⟨rfl, _⟩ | ⟨rfl, _⟩ <;> omega
end Go.Proofs.YtndejiminaopeaaDoor
