/- What lex.Quote computes, and that it is read back: plain. -/
import Derived.Test.YtndejiminaopeaaDoorAlonePlain
import Derived.Test.YtndejiminaopeaaDoorIter
namespace Go.Proofs.YtndejiminaopeaaDoor
open Go

/-- A byte, as it stands in a token. -/
def encB (c : UInt8) : List UInt8 :=
  if c = 10 then [92, 110] else if c = 34 ∨ c = 92 then [92, c] else if 32 ≤ c ∧ c ≤ 126 then [c] else [92, 120, smallL.getD (c.toNat / 16) 0, smallL.getD (c.toNat % 16) 0]
def bodyL (l : List UInt8) : List UInt8 := l.flatMap encB
def quoteL (l : List UInt8) : List UInt8 := 34 :: (bodyL l ++ [34])

theorem bodyL_cons (c : UInt8) (l : List UInt8) : bodyL (c :: l) = encB c ++ bodyL l := rfl
theorem bodyL_app (a b : List UInt8) : bodyL (a ++ b) = bodyL a ++ bodyL b := by simp [bodyL]
theorem encB_len (c : UInt8) : 1 ≤ (encB c).length ∧ (encB c).length ≤ 4 := by
  have := u8_all (p := fun c => decide (1 ≤ (encB c).length) && decide ((encB c).length ≤ 4)) (by decide +kernel) c
  simpa using this
theorem bodyL_len (l : List UInt8) : (bodyL l).length ≤ 4 * l.length := by
  induction l with
  | nil => simp [bodyL]
  | cons c r ih => rw [bodyL_cons, List.length_append, List.length_cons]; have := (encB_len c).2; omega
theorem encB_range (c : UInt8) : ∀ x ∈ encB c, 32 ≤ x ∧ x ≤ 126 := by
  have := u8_all (p := fun c => (encB c).all (fun x => decide (32 ≤ x) && decide (x ≤ 126))) (by decide +kernel) c
  intro x hx
  have := List.all_eq_true.1 this x hx
  simpa using this
theorem quoteL_range (l : List UInt8) : ∀ x ∈ quoteL l, 32 ≤ x ∧ x ≤ 126 := by
  intro x hx
  unfold quoteL at hx
  rcases List.mem_cons.1 hx with rfl | hx
  · decide
  · rcases List.mem_append.1 hx with hx | hx
    · obtain ⟨c, _, hc⟩ := List.mem_flatMap.1 hx
      exact encB_range c x hc
    · simp at hx; subst hx; decide
/-- One byte of a token, read. -/
theorem quotGo_enc (c : UInt8) (k n : Nat) (acc r : List UInt8) : quotGo (k + 1) (encB c ++ r) n acc = quotGo k r (n + (encB c).length) (acc ++ [c]) := by
  by_cases h10 : c = 10
  · subst h10
    simp [encB, quotGo, escL]
  · by_cases h34 : c = 34 ∨ c = 92
    · rcases h34 with rfl | rfl <;> simp [encB, quotGo, escL]
    · have hn : c ≠ 34 ∧ c ≠ 92 := ⟨fun h => h34 (.inl h), fun h => h34 (.inr h)⟩
      by_cases hp : 32 ≤ c ∧ c ≤ 126
      · have e : encB c = [c] := by unfold encB; rw [if_neg h10, if_neg h34, if_pos hp]
        have h5 : ¬ (c < 32 ∨ 126 < c) := by
          rintro (h | h)
          · exact absurd hp.1 (UInt8.not_le.2 h)
          · exact absurd hp.2 (UInt8.not_le.2 h)
        rw [e]
        simp only [List.cons_append, List.nil_append, quotGo, if_neg hn.1, if_neg hn.2, if_neg h5, List.length_cons, List.length_nil]
      · have e : encB c = [92, 120, smallL.getD (c.toNat / 16) 0, smallL.getD (c.toNat % 16) 0] := by unfold encB; rw [if_neg h10, if_neg h34, if_neg hp]
        have h6 := u8_all (p := fun c => decide (runL smallL [smallL.getD (c.toNat / 16) 0, smallL.getD (c.toNat % 16) 0] = 2) && decide (UInt8.ofNat (16 * hexAt (smallL.getD (c.toNat / 16) 0) + hexAt (smallL.getD (c.toNat % 16) 0)) = c)) (by decide +kernel) c
        simp only [Bool.and_eq_true, decide_eq_true_eq] at h6
        rw [e]
        generalize smallL.getD (c.toNat / 16) 0 = a at h6
        generalize smallL.getD (c.toNat % 16) 0 = b at h6
        have he : escL (120 :: a :: b :: r) = (16 * hexAt a + hexAt b, 3) := by
          simp only [escL]
          rw [if_neg (by decide), if_neg (by decide), if_neg (by decide), if_pos trivial, if_pos h6.1]
        simp only [List.cons_append, List.nil_append, quotGo]
        rw [if_neg (by decide), if_pos trivial, he, if_neg (by simp), h6.2]
        rfl
theorem quotGo_body : ∀ (l : List UInt8) (k n : Nat) (acc q : List UInt8), l.length + 1 ≤ k → quotGo k (bodyL l ++ 34 :: q) n acc = (acc ++ l, n + (bodyL l).length + 1) := by
  intro l
  induction l with
  | nil =>
    intro k n acc q hk
    obtain ⟨k, rfl⟩ : ∃ m, k = m + 1 := ⟨k - 1, by omega⟩
    simp [bodyL, quotGo]
  | cons c r ih =>
    intro k n acc q hk
    rw [List.length_cons] at hk
    obtain ⟨k, rfl⟩ : ∃ m, k = m + 1 := ⟨k - 1, by omega⟩
    rw [bodyL_cons, List.append_assoc, quotGo_enc, ih _ _ _ _ (by omega), List.length_append, List.append_assoc]
    simp only [List.cons_append, List.nil_append]
    congr 1
    omega
theorem body_ge (l : List UInt8) : l.length ≤ (bodyL l).length := by
  induction l with
  | nil => simp
  | cons c r ih => rw [bodyL_cons, List.length_append, List.length_cons]; have := (encB_len c).1; omega
theorem quotL_quote (l q : List UInt8) : quotL (quoteL l ++ q) = (l, (quoteL l).length) := by
  unfold quotL quoteL
  simp only [List.cons_append, List.drop_succ_cons, List.drop_zero, List.append_assoc, List.nil_append]
  rw [quotGo_body l _ _ _ _ (by have := body_ge l; simp; omega)]
  simp; omega
theorem read_quote (l q : List UInt8) : readL (quoteL l ++ q) = (3, l, (quoteL l).length) := by
  have hq := quotL_quote l q
  have h0 : 0 < (quoteL l).length := by simp [quoteL]
  obtain ⟨r, hr⟩ : ∃ r, quoteL l ++ q = 34 :: r := ⟨_, rfl⟩
  rw [hr] at hq ⊢
  unfold readL
  simp only [rdL]
  rw [br_miss (by decide), br_miss (by decide)]
  simp only [textL, List.head?_cons, if_true, Nat.lt_irrefl, if_false]
  rw [hq, if_pos h0]
theorem one_quote (l q : List UInt8) (hq : partedL q = true) : oneL (quoteL l ++ q) = (3, l, (quoteL l).length) := by
  unfold oneL
  rw [read_quote, List.drop_left, hq]
  simp
theorem toks_quote (l : List UInt8) : toksL (quoteL l) = ([⟨3, l, 0⟩], none) := by
  have h := one_quote l [] rfl
  rw [List.append_nil] at h
  refine toks_one (by simp [quoteL]) ?_ (by simp [quoteL]) h
  unfold quoteL
  rw [runL_cons, if_neg (by decide)]
theorem quote_inj {a b : List UInt8} (h : quoteL a = quoteL b) : a = b := by
  have h1 := toks_quote a
  rw [h, toks_quote b] at h1
  injection h1 with h1
  injection h1 with h1
  injection h1 with _ h1
  exact h1.symm
theorem toks_paren (l : List UInt8) : toksL (40 :: (quoteL l ++ [41])) = ([⟨0, [], 0⟩, ⟨3, l, 1⟩, ⟨1, [], 1 + (quoteL l).length⟩], none) := by
  have h1 := one_quote l [41] rfl
  obtain ⟨r, hr⟩ : ∃ r, quoteL l ++ [41] = 34 :: r := ⟨_, rfl⟩
  have ho : oneL (40 :: (quoteL l ++ [41])) = (0, [], 1) := by
    have : readL (40 :: (quoteL l ++ [41])) = (0, [], 1) := by
      unfold readL
      simp only [rdL]
      have : brL 40 (40 :: (quoteL l ++ [41])) = 1 := by simp [brL, runL]
      rw [this]
      rfl
    unfold oneL
    rw [this]
    simp
  have hc : oneL [41] = (1, [], 1) := by decide +kernel
  have hlen : (40 :: (quoteL l ++ [41])).length = ((quoteL l).length + 1) + 1 := by simp
  have hI : items (40 :: (quoteL l ++ [41])) = [⟨0, [], 0, 1⟩, ⟨3, l, 1, (quoteL l).length⟩, ⟨1, [], 1 + (quoteL l).length, 1⟩] := by
    unfold items
    rw [hlen]
    unfold itemsGo
    rw [if_neg (by simp), if_neg (by rw [runL_cons, if_neg (by decide)]; omega), if_neg (by simp), ho, if_neg (by decide)]
    have e2 : itemsGo ((quoteL l).length + 1) (0 + 1) (quoteL l ++ [41]) = [⟨3, l, 1, (quoteL l).length⟩, ⟨1, [], 1 + (quoteL l).length, 1⟩] := by
      have hql : (quoteL l).length ≠ 0 := by simp [quoteL]
      unfold itemsGo
      rw [if_neg (by simp), if_neg (by rw [hr, runL_cons, if_neg (by decide)]; omega), if_neg (by rw [hr]; simp), h1, if_neg hql]
      simp only [List.drop_left]
      obtain ⟨k, hk⟩ : ∃ k, (quoteL l).length = k + 1 := ⟨(quoteL l).length - 1, by omega⟩
      rw [hk]
      unfold itemsGo
      rw [if_neg (by simp), if_neg (by decide), if_neg (by simp), hc, if_neg (by decide)]
      simp only [List.drop_succ_cons, List.drop_zero, itemsGo_nil]
    simp only [List.drop_succ_cons, List.drop_zero]
    rw [e2]
  unfold toksL
  rw [hI]
  have hql : (quoteL l).length ≠ 0 := by simp [quoteL]
  simp [goodI, tkOf, hql]
end Go.Proofs.YtndejiminaopeaaDoor
