/- LexAlone: the plain law. -/
import Derived.Test.YtndejiminaopeaaDoorSpec
namespace Go.Proofs.YtndejiminaopeaaDoor
open Go

theorem runL_nil (of : List UInt8) : runL of [] = 0 := rfl
theorem runL_cons (of : List UInt8) (c : UInt8) (r : List UInt8) : runL of (c :: r) = if of.contains c then runL of r + 1 else 0 := by
  unfold runL
  rw [List.takeWhile_cons]
  cases h : of.contains c <;> simp
theorem runL_all {of l : List UInt8} (h : ∀ c ∈ l, of.contains c = true) (q : List UInt8) : runL of (l ++ q) = l.length + runL of q := by
  induction l with
  | nil => simp
  | cons c r ih =>
    rw [List.cons_append, runL_cons, if_pos (h c (by simp)), ih (fun x hx => h x (by simp [hx])), List.length_cons]
    omega
theorem runL_len {of l : List UInt8} (h : runL of l = l.length) : ∀ c ∈ l, of.contains c = true := by
  induction l with
  | nil => simp
  | cons c r ih =>
    rw [runL_cons] at h
    by_cases hc : of.contains c = true
    · rw [if_pos hc, List.length_cons] at h
      intro x hx
      rcases List.mem_cons.1 hx with rfl | hx
      · exact hc
      · exact ih (by omega) x hx
    · rw [if_neg hc, List.length_cons] at h; omega
/-- The first runL bytes, and what stands behind. -/
theorem runL_split (of l : List UInt8) : ∃ x q, l = x ++ q ∧ x.length = runL of l ∧ (∀ c ∈ x, of.contains c = true) ∧ (∀ c r, q = c :: r → of.contains c = false) := by
  induction l with
  | nil => exact ⟨[], [], rfl, rfl, by simp, by simp⟩
  | cons c r ih =>
    rw [runL_cons]
    by_cases hc : of.contains c = true
    · obtain ⟨x, q, h1, h2, h3, h4⟩ := ih
      refine ⟨c :: x, q, by rw [h1]; rfl, by rw [if_pos hc, List.length_cons, h2], fun y hy => ?_, h4⟩
      rcases List.mem_cons.1 hy with rfl | hy
      · exact hc
      · exact h3 y hy
    · refine ⟨[], c :: r, rfl, by rw [if_neg hc]; rfl, by simp, fun y z h => ?_⟩
      cases h
      simpa using hc

/-- What a name is. -/
structure IsName (l : List UInt8) where
  c : UInt8
  r : List UInt8
  q : List UInt8
  eq : l = c :: r ++ q
  hc : lettersL.contains c = true
  hr : ∀ x ∈ r, innerL.contains x = true
  hq : q = [] ∨ q = [63]

theorem u8_all {p : UInt8 → Bool} (h : (List.range 256).all (fun n => p (UInt8.ofNat n)) = true) (c : UInt8) : p c = true := by
  have := List.all_eq_true.1 h c.toNat (List.mem_range.2 (UInt8.toNat_lt c))
  simpa using this
theorem letters_inner (c : UInt8) (h : lettersL.contains c = true) : innerL.contains c = true := by
  have := u8_all (p := fun c => !lettersL.contains c || innerL.contains c) (by decide +kernel) c
  simp only [h, Bool.not_true, Bool.false_or] at this
  exact this
theorem q_inner : innerL.contains 63 = false := by decide +kernel
theorem namedL_is {c : UInt8} {r q : List UInt8} (hc : lettersL.contains c = true) (hr : ∀ x ∈ r, innerL.contains x = true) (hq : ∀ a b, q = a :: b → innerL.contains a = false) :
    namedL (c :: r ++ q) = (c :: r).length + (if Lib.hasPrefix q [63] then 1 else 0) := by
  have hcr : ∀ x ∈ c :: r, innerL.contains x = true := fun x hx => by
    rcases List.mem_cons.1 hx with rfl | hx
    · exact letters_inner _ hc
    · exact hr x hx
  have hq0 : runL innerL q = 0 := by
    cases q with
    | nil => rfl
    | cons a b => rw [runL_cons, hq a b rfl]; rfl
  have h1 : runL innerL (c :: r ++ q) = (c :: r).length := by rw [runL_all hcr q, hq0]; rfl
  unfold namedL
  rw [if_neg (by simp), if_neg (by simp only [List.cons_append, List.take_succ_cons, List.take_zero]; rw [runL_cons, if_pos hc]; simp), h1, List.drop_left]
  split <;> omega
theorem nameB_of {l : List UInt8} (h : IsName l) : nameB l = true := by
  obtain ⟨c, r, q, rfl, hc, hr, hq⟩ := h
  unfold nameB
  rw [if_neg (by simp)]
  rw [namedL_is hc hr (fun a b e => by rcases hq with rfl | rfl; cases e; cases e; exact q_inner)]
  rcases hq with rfl | rfl
  · simp [Lib.hasPrefix]
  · simp [Lib.hasPrefix]
theorem of_nameB {l : List UInt8} (h : nameB l = true) : Nonempty (IsName l) := by
  unfold nameB at h
  split at h
  · cases h
  · rename_i hl
    have hn : namedL l = l.length := of_decide_eq_true h
    cases l with
    | nil => exact absurd rfl hl
    | cons c r =>
      by_cases hc : lettersL.contains c = true
      · obtain ⟨x, q, h1, h2, h3, h4⟩ := runL_split innerL r
        rw [h1] at hn ⊢
        have := namedL_is hc h3 h4
        rw [← List.cons_append] at hn
        rw [this, List.length_append] at hn
        refine ⟨⟨c, x, q, rfl, hc, h3, ?_⟩⟩
        cases q with
        | nil => exact .inl rfl
        | cons a b =>
          by_cases ha : Lib.hasPrefix (a :: b) [63] = true
          · rw [if_pos ha] at hn
            have hb : b = [] := by
              cases b with
              | nil => rfl
              | cons d e => simp at hn
            subst hb
            right
            simp [Lib.hasPrefix] at ha
            rw [ha]
          · rw [if_neg ha] at hn
            simp at hn
      · have : namedL (c :: r) = 0 := by
          unfold namedL
          rw [if_neg (by simp), if_pos (by simp only [List.take_succ_cons, List.take_zero]; rw [runL_cons, if_neg hc])]
        rw [this] at hn
        simp at hn

theorem itemsGo_nil (k p : Nat) : itemsGo k p [] = [] := by cases k <;> simp [itemsGo]
theorem toks_one {l t : List UInt8} {k : Nat} (hl : l ≠ []) (hb : runL blanksL l = 0) (h59 : l.head? ≠ some 59) (h1 : oneL l = (k, t, l.length)) : toksL l = ([⟨k, t, 0⟩], none) := by
  obtain ⟨c, r, rfl⟩ := List.exists_cons_of_ne_nil hl
  have h0 : items (c :: r) = [⟨k, t, 0, (c :: r).length⟩] := by
    unfold items
    rw [List.length_cons]
    unfold itemsGo
    rw [if_neg hl, if_neg (by omega), if_neg h59, h1, if_neg (by simp)]
    simp only [List.drop_length]
    rw [itemsGo_nil]; rfl
  unfold toksL
  rw [h0]
  simp [goodI, tkOf]
theorem toks_bad {l t : List UInt8} {k : Nat} (hl : l ≠ []) (hb : runL blanksL l = 0) (h59 : l.head? ≠ some 59) (h1 : oneL l = (k, t, 0)) : toksL l = ([], some 0) := by
  obtain ⟨c, r, rfl⟩ := List.exists_cons_of_ne_nil hl
  have h0 : items (c :: r) = [⟨k, t, 0, 0⟩] := by
    unfold items
    rw [List.length_cons]
    unfold itemsGo
    rw [if_neg hl, if_neg (by omega), if_neg h59, h1, if_pos rfl]
  unfold toksL
  rw [h0]
  simp [goodI]
theorem parted_nil : partedL [] = true := rfl
/-- No reader ahead of the numbers' finds a letter, a digit, a sign. -/
def plainB (c : UInt8) : Bool := c != 40 && c != 41 && c != 34 && c != 59 && !blanksL.contains c
theorem br_miss {d c : UInt8} {r : List UInt8} (h : c ≠ d) : brL d (c :: r) = 0 := by
  unfold brL
  have : runL [d] (List.take 1 (c :: r)) = 0 := by simp only [List.take_succ_cons, List.take_zero]; rw [runL_cons, if_neg (by simpa using h)]
  rw [if_pos this]
theorem read_plain {c : UInt8} {r : List UInt8} (h : plainB c = true) : readL (c :: r) = if 0 < intL (c :: r) then (2, (c :: r).take (intL (c :: r)), intL (c :: r)) else
    if 0 < namedL (c :: r) then (4, (c :: r).take (namedL (c :: r)), namedL (c :: r)) else (5, (c :: r).take (signL (c :: r)), signL (c :: r)) := by
  simp only [plainB, Bool.and_eq_true, bne_iff_ne, ne_eq] at h
  obtain ⟨⟨⟨⟨h1, h2⟩, h3⟩, h4⟩, h5⟩ := h
  unfold readL
  simp only [rdL]
  rw [br_miss h1, br_miss h2]
  simp only [textL, List.head?_cons, Option.some.injEq, h3, if_false, Nat.lt_irrefl]
theorem run_blank {c : UInt8} {r : List UInt8} (h : plainB c = true) : runL blanksL (c :: r) = 0 := by
  simp only [plainB, Bool.and_eq_true] at h
  rw [runL_cons, if_neg (by simpa using h.2)]
theorem head_59 {c : UInt8} {r : List UInt8} (h : plainB c = true) : (c :: r).head? ≠ some 59 := by
  simp only [plainB, Bool.and_eq_true, bne_iff_ne] at h
  simpa using h.1.2
theorem letter_plain (c : UInt8) (h : lettersL.contains c = true) : plainB c = true ∧ c ≠ 45 ∧ digitsL.contains c = false := by
  have := u8_all (p := fun c => !lettersL.contains c || (plainB c && (c != 45 && !digitsL.contains c))) (by decide +kernel) c
  simp only [h, Bool.not_true, Bool.false_or, Bool.and_eq_true, bne_iff_ne] at this
  exact ⟨this.1, this.2.1, by simpa using this.2.2⟩
theorem trim_ne {c : UInt8} {r : List UInt8} (h : c ≠ 45) : Lib.trimPrefix (c :: r) [45] = c :: r ∧ Lib.hasPrefix (c :: r) [45] = false := by
  have h2 : Lib.hasPrefix (c :: r) [45] = false := by
    show ((45 : UInt8) == c && true) = false
    simpa using fun e => h e.symm
  exact ⟨by unfold Lib.trimPrefix; rw [h2]; rfl, h2⟩
theorem int_letter {c : UInt8} {r : List UInt8} (h : lettersL.contains c = true) : intL (c :: r) = 0 := by
  obtain ⟨_, h2, h3⟩ := letter_plain c h
  unfold intL
  rw [(trim_ne h2).1]
  simp only [Nat.sub_self, List.drop_zero]
  have : runL digitsL (c :: r) = 0 := by rw [runL_cons, if_neg (by rw [h3]; simp)]
  rw [this]
  simp
theorem num_letter {c : UInt8} {r : List UInt8} (h : lettersL.contains c = true) : numB (c :: r) = false := by
  obtain ⟨_, h2, h3⟩ := letter_plain c h
  unfold numB
  rw [(trim_ne h2).1]
  unfold numT
  rw [if_neg (by simp), if_pos (by rw [runL_cons, if_neg (by rw [h3]; simp)]; simp)]
theorem alone_not {l : List UInt8} (h : nameB l = true) : numB l = false := by
  obtain ⟨⟨c, r, q, rfl, hc, _, _⟩⟩ := of_nameB h
  exact num_letter hc
theorem alone_ne {l : List UInt8} (h : nameB l = true) : l ≠ [] := by
  rintro rfl; cases h
theorem named_all {l : List UInt8} (h : nameB l = true) : namedL l = l.length := by
  unfold nameB at h
  split at h
  · cases h
  · exact of_decide_eq_true h
theorem alone_name {l : List UInt8} (h : nameB l = true) : toksL l = ([⟨4, l, 0⟩], none) := by
  obtain ⟨⟨c, r, q, e, hc, _, _⟩⟩ := of_nameB h
  have hn := named_all h
  rw [List.cons_append] at e
  have hp := (letter_plain c hc).1
  refine toks_one (alone_ne h) (by rw [e]; exact run_blank hp) (by rw [e]; exact head_59 hp) ?_
  have hr : readL l = (4, l, l.length) := by
    rw [e, read_plain hp, int_letter hc, ← e, hn, if_neg (by omega), if_pos (by rw [e]; simp), List.take_length]
  unfold oneL
  rw [hr, List.drop_length, parted_nil]
  simp
theorem name_more {l : List UInt8} (h : nameB l = true) (h2 : l.getLast? ≠ some 63) : nameB (l ++ [97]) = true ∧ nameB (l ++ [63]) = true := by
  obtain ⟨⟨c, r, q, rfl, hc, hr, hq⟩⟩ := of_nameB h
  rcases hq with rfl | rfl
  · simp only [List.append_nil]
    refine ⟨nameB_of ⟨c, r ++ [97], [], by simp, hc, fun x hx => ?_, .inl rfl⟩, nameB_of ⟨c, r, [63], rfl, hc, hr, .inr rfl⟩⟩
    rcases List.mem_append.1 hx with hx | hx
    · exact hr x hx
    · simp at hx; subst hx; decide
  · exact absurd (by rw [List.getLast?_append]; simp) h2
theorem name_qq (l : List UInt8) : nameB (l ++ [63, 63]) = false := by
  cases h : nameB (l ++ [63, 63]) with
  | false => rfl
  | true =>
    obtain ⟨⟨c, r, q, e, hc, hr, hq⟩⟩ := of_nameB h
    exfalso
    have e2 := congrArg List.reverse e
    rcases hq with rfl | rfl
    · simp at e2
      have : (63 : UInt8) ∈ c :: r := by
        have : (63 : UInt8) ∈ (r.reverse ++ [c]) := by rw [← e2]; simp
        simpa [or_comm] using this
      rcases List.mem_cons.1 this with rfl | h
      · exact absurd hc (by decide)
      · exact absurd (hr 63 h) (by decide)
    · simp at e2
      have : (63 : UInt8) ∈ (r.reverse ++ [c]) := by rw [← e2]; simp
      have : (63 : UInt8) ∈ c :: r := by simpa [or_comm] using this
      rcases List.mem_cons.1 this with rfl | h
      · exact absurd hc (by decide)
      · exact absurd (hr 63 h) (by decide)
theorem name_minus (l : List UInt8) : nameB (45 :: l) = false := by
  cases h : nameB (45 :: l) with
  | false => rfl
  | true =>
    obtain ⟨⟨c, r, q, e, hc, _, _⟩⟩ := of_nameB h
    rw [List.cons_append] at e
    cases e
    exact absurd hc (by decide)
theorem num_long (l : List UInt8) : numB (48 :: (l ++ [49])) = false := by
  unfold numB
  rw [(trim_ne (by decide)).1]
  unfold numT
  rw [if_neg (by simp)]
  split
  · rfl
  · rw [if_neg (by simp)]
    simp

/-- What a number is. -/
theorem num_is {l : List UInt8} (h : numB l = true) : ∃ m d r, l = m ++ d :: r ∧ (m = [] ∨ m = [45]) ∧ digitsL.contains d = true ∧ (∀ x ∈ r, digitsL.contains x = true) := by
  unfold numB numT at h
  split at h
  · cases h
  · rename_i h1
    split at h
    · cases h
    · rename_i h2
      have h2 : runL digitsL (Lib.trimPrefix l [45]) = (Lib.trimPrefix l [45]).length := by omega
      have h3 := runL_len h2
      obtain ⟨d, r, hd⟩ := List.exists_cons_of_ne_nil h1
      rw [hd] at h3
      by_cases hp : Lib.hasPrefix l [45] = true
      · refine ⟨[45], d, r, ?_, .inr rfl, h3 d (by simp), fun x hx => h3 x (by simp [hx])⟩
        rw [← hd]
        unfold Lib.trimPrefix
        rw [if_pos hp]
        cases l with
        | nil => cases hp
        | cons a b => simp [Lib.hasPrefix] at hp; simp [hp]
      · refine ⟨[], d, r, ?_, .inl rfl, h3 d (by simp), fun x hx => h3 x (by simp [hx])⟩
        unfold Lib.trimPrefix at hd
        rw [if_neg hp] at hd
        rw [hd]; rfl
theorem digit_plain (c : UInt8) (h : digitsL.contains c = true) : plainB c = true ∧ c ≠ 45 := by
  have := u8_all (p := fun c => !digitsL.contains c || (plainB c && c != 45)) (by decide +kernel) c
  simp only [h, Bool.not_true, Bool.false_or, Bool.and_eq_true, bne_iff_ne] at this
  exact this

theorem digits_plainless (c : UInt8) (h : digitsL.contains c = true) : lettersL.contains c = false := by
  have := u8_all (p := fun c => !digitsL.contains c || !lettersL.contains c) (by decide +kernel) c
  simp only [h, Bool.not_true, Bool.false_or] at this
  simpa using this
/-- A number's reader on a number and what stands behind it, if no digit. -/
theorem int_num {l q : List UInt8} (h : numB l = true) (hq : ∀ a b, q = a :: b → digitsL.contains a = false) : intL (l ++ q) = l.length := by
  obtain ⟨m, d, r, rfl, hm, hd, hr⟩ := num_is h
  have hdr : ∀ x ∈ d :: r, digitsL.contains x = true := fun x hx => by
    rcases List.mem_cons.1 hx with rfl | hx
    · exact hd
    · exact hr x hx
  have hq0 : runL digitsL q = 0 := by
    cases q with
    | nil => rfl
    | cons a b => rw [runL_cons, hq a b rfl]; rfl
  have hn : ((m ++ d :: r) ++ q).length - (Lib.trimPrefix ((m ++ d :: r) ++ q) [45]).length = m.length := by
    rcases hm with rfl | rfl
    · rw [List.nil_append, List.cons_append, (trim_ne (digit_plain d hd).2).1]; simp
    · simp [Lib.trimPrefix, Lib.hasPrefix]
  have hmore : runL digitsL (((m ++ d :: r) ++ q).drop m.length) = (d :: r).length := by
    rw [List.append_assoc, List.drop_left, runL_all hdr q, hq0]; rfl
  unfold intL
  rw [hn]
  simp only [hmore]
  have e2 : ((m ++ d :: r) ++ q).take (m.length + (d :: r).length) = m ++ d :: r := by
    rw [← List.length_append, List.take_left]
  rw [if_pos (by simp), e2, if_pos h, List.length_append]
theorem num_head {l : List UInt8} (h : numB l = true) (q : List UInt8) : ∃ c r, l ++ q = c :: r ∧ plainB c = true := by
  obtain ⟨m, d, r, rfl, hm, hd, hr⟩ := num_is h
  rcases hm with rfl | rfl
  · exact ⟨d, r ++ q, rfl, (digit_plain d hd).1⟩
  · exact ⟨45, d :: r ++ q, rfl, by decide⟩
theorem num_ne {l : List UInt8} (h : numB l = true) : 0 < l.length := by
  obtain ⟨m, d, r, rfl, hm, hd, hr⟩ := num_is h
  rw [List.length_append, List.length_cons]; omega
theorem read_num {l q : List UInt8} (h : numB l = true) (hq : ∀ a b, q = a :: b → digitsL.contains a = false) : readL (l ++ q) = (2, l, l.length) := by
  obtain ⟨c, r, e, hp⟩ := num_head h q
  have hi := int_num h hq
  have h0 := num_ne h
  have : (l ++ q).take l.length = l := List.take_left
  rw [e] at hi this ⊢
  rw [read_plain hp, hi, if_pos h0, this]
theorem alone_num {l : List UInt8} (h : numB l = true) : toksL l = ([⟨2, l, 0⟩], none) := by
  obtain ⟨c, r, e, hp⟩ := num_head h []
  rw [List.append_nil] at e
  have h0 := num_ne h
  refine toks_one (by rintro rfl; simp at h0) (by rw [e]; exact run_blank hp) (by rw [e]; exact head_59 hp) ?_
  have hr := read_num h (q := []) (fun a b e => by cases e)
  rw [List.append_nil] at hr
  unfold oneL
  rw [hr, List.drop_length, parted_nil]
  simp
theorem num_a {l : List UInt8} (h : numB l = true) : toksL (l ++ [97]) = ([], some 0) := by
  obtain ⟨c, r, e, hp⟩ := num_head h [97]
  have h0 := num_ne h
  have hr := read_num h (q := [97]) (fun a b e => by cases e; decide)
  refine toks_bad (k := 2) (t := l) (by simp) (by rw [e]; exact run_blank hp) (by rw [e]; exact head_59 hp) ?_
  unfold oneL
  rw [hr, List.drop_left, if_pos ⟨h0, by simp, by simp, by decide⟩]
theorem num_a2 {l : List UInt8} (h : numB l = true) : numB (l ++ [97]) = false := by
  obtain ⟨m, d, r, rfl, hm, hd, hr⟩ := num_is h
  have ht : Lib.trimPrefix ((m ++ d :: r) ++ [97]) [45] = d :: (r ++ [97]) := by
    rcases hm with rfl | rfl
    · rw [List.nil_append, List.cons_append, (trim_ne (digit_plain d hd).2).1]
    · simp [Lib.trimPrefix, Lib.hasPrefix]
  unfold numB
  rw [ht]
  unfold numT
  rw [if_neg (by simp)]
  have : runL digitsL (d :: (r ++ [97])) ≠ (d :: (r ++ [97])).length := fun e => by
    have := runL_len e 97 (by simp)
    exact absurd this (by decide)
  rw [if_pos this]
end Go.Proofs.YtndejiminaopeaaDoor
