/- litmusref05.One: the plain law: what it computes is what lex.one computes. -/
import Derived.Test.YtndejiminaopeaaDoorBackPlain
import Derived.Test.YtndejiminaopeaaDoorRef3
namespace Go.Proofs.YtndejiminaopeaaDoor
open Go

/-- A token's kind, text and length, ahead of the look at what stands behind it. -/
def OneIs (k : Nat) (t : List UInt8) (n : Nat) (l : List UInt8) : Prop :=
  ((oneL l).2.2 = if partedL (l.drop n) = true then n else 0) ∧ ((oneL l).2.2 ≠ 0 → (oneL l).1 = k ∧ (oneL l).2.1 = t)
theorem oneIs_read {k n : Nat} {t l : List UInt8} (h : readL l = (k, t, n)) (hk : 2 ≤ k) : OneIs k t n l := by
  unfold OneIs oneL
  rw [h]
  by_cases hp : partedL (l.drop n) = true
  · rw [if_pos hp]
    simp [hp]
  · rw [if_neg hp]
    have hp' : partedL (l.drop n) = false := by simpa using hp
    by_cases hn : 0 < n
    · rw [if_pos ⟨hn, by show k ≠ 0; omega, by show k ≠ 1; omega, hp'⟩]; simp
    · rw [if_neg (fun h => hn h.1)]
      obtain rfl : n = 0 := by omega
      simp
theorem oneIs_zero {k : Nat} {t l : List UInt8} (h : (oneL l).2.2 = 0) : OneIs k t 0 l := by
  unfold OneIs
  rw [h]
  simp
theorem one_zero {l : List UInt8} (h : (readL l).2.2 = 0) : (oneL l).2.2 = 0 := by
  unfold oneL
  split
  · rfl
  · exact h
/-- The byte with which a token may begin, but for brackets and texts. -/
theorem plain_of {c : UInt8} (h40 : c ≠ 40) (h41 : c ≠ 41) (h34 : c ≠ 34) (h59 : c ≠ 59) (hb : blanksL.contains c = false) : plainB c = true := by
  have h2 := u8_all (p := fun c => (c == 40) || (c == 41) || (c == 34) || (c == 59) || blanksL.contains c || plainB c) (by decide +kernel) c
  have e1 : (c == 40) = false := by simpa using h40
  have e2 : (c == 41) = false := by simpa using h41
  have e3 : (c == 34) = false := by simpa using h34
  have e4 : (c == 59) = false := by simpa using h59
  rw [e1, e2, e3, e4, hb] at h2
  simpa using h2
theorem named_digit {c : UInt8} (r : List UInt8) (h : lettersL.contains c = false) : namedL (c :: r) = 0 := by
  unfold namedL
  rw [if_neg (by simp), if_pos (by simp only [List.take_succ_cons, List.take_zero]; rw [runL_cons, h]; rfl)]
theorem oneSign_not {c : UInt8} (h : digitsL.contains c = true) : oneSign c = false := by
  have h2 := u8_all (p := fun c => !digitsL.contains c || !oneSign c) (by decide +kernel) c
  rw [h] at h2
  simpa using h2
theorem sign_none {c : UInt8} (r : List UInt8) (h : oneSign c = false) : signL (c :: r) = 0 := by
  cases r with
  | nil => rw [sign_last, h]; rfl
  | cons d r =>
    rw [sign_two, h]
    have hc : c ≠ 60 ∧ c ≠ 61 ∧ c ≠ 45 := ⟨by rintro rfl; revert h; decide, by rintro rfl; revert h; decide, by rintro rfl; revert h; decide⟩
    simp [hc.1, hc.2.1, hc.2.2]
theorem int_digit {c : UInt8} {r : List UInt8} (h45 : c ≠ 45) : intL (c :: r) = if 0 < runL digitsL (c :: r) then (if numB ((c :: r).take (runL digitsL (c :: r))) then runL digitsL (c :: r) else 0) else 0 := by
  unfold intL
  rw [(trim_ne h45).1]
  simp
theorem int_minus (r : List UInt8) : intL (45 :: r) = if 0 < runL digitsL r then (if numB ((45 :: r).take (1 + runL digitsL r)) then 1 + runL digitsL r else 0) else 0 := by
  unfold intL
  simp [Lib.trimPrefix, Lib.hasPrefix]

theorem one_num {c : UInt8} {r : List UInt8} (hd : digitsL.contains c = true) : OneIs 2 ((c :: r).take (numLenL (c :: r))) (if numB ((c :: r).take (numLenL (c :: r))) = true then numLenL (c :: r) else 0) (c :: r) := by
  have hp := (digit_plain c hd).1
  have h45 := (digit_plain c hd).2
  have hl := digits_plainless c hd
  have h0 : 0 < runL digitsL (c :: r) := by rw [runL_cons, if_pos hd]; omega
  rw [numLen_c r h45]
  have hi := int_digit (r := r) h45
  rw [if_pos h0] at hi
  by_cases hn : numB ((c :: r).take (runL digitsL (c :: r))) = true
  · rw [if_pos hn] at hi ⊢
    refine oneIs_read ?_ (Nat.le_refl _)
    rw [read_plain hp, hi, if_pos h0]
  · rw [if_neg hn] at hi ⊢
    refine oneIs_zero (one_zero ?_)
    rw [read_plain hp, hi, named_digit r hl, sign_none r (oneSign_not hd)]
    rfl
theorem one_minus {d : UInt8} {r : List UInt8} (hd : digitsL.contains d = true) : OneIs 2 ((45 :: d :: r).take (numLenL (45 :: d :: r))) (if numB ((45 :: d :: r).take (numLenL (45 :: d :: r))) = true then numLenL (45 :: d :: r) else 0) (45 :: d :: r) := by
  have h0 : 0 < runL digitsL (d :: r) := by rw [runL_cons, if_pos hd]; omega
  rw [numLen_45, if_neg (by omega)]
  have hi := int_minus (d :: r)
  rw [if_pos h0] at hi
  by_cases hn : numB ((45 :: d :: r).take (1 + runL digitsL (d :: r))) = true
  · rw [if_pos hn] at hi ⊢
    refine oneIs_read ?_ (Nat.le_refl _)
    rw [read_plain (by decide), hi, if_pos (by omega)]
  · rw [if_neg hn] at hi ⊢
    refine oneIs_zero ?_
    have hs : signL (45 :: d :: r) = 1 := by
      rw [sign_two, if_neg (by
        have h62 : d ≠ 62 := by rintro rfl; revert hd; decide
        simp [h62]), if_pos (by decide)]
    have hr : readL (45 :: d :: r) = (5, [45], 1) := by
      rw [read_plain (by decide), hi, named_digit _ (by decide), hs]
      rfl
    have hpt : partedL ((45 :: d :: r).drop 1) = false := by
      show partedL (d :: r) = false
      rw [parted_is]
      have h2 := u8_all (p := fun c => !digitsL.contains c || !endsL.contains c) (by decide +kernel) d
      rw [hd] at h2
      simpa using h2
    unfold oneL
    rw [hr, if_pos ⟨by show 0 < 1; omega, by show (5 : Nat) ≠ 0; omega, by show (5 : Nat) ≠ 1; omega, hpt⟩]
theorem one_name {c : UInt8} {r : List UInt8} (hl : lettersL.contains c = true) : OneIs 4 ((c :: r).take (namedL (c :: r))) (namedL (c :: r)) (c :: r) := by
  have hp := (letter_plain c hl).1
  have h0 : 0 < namedL (c :: r) := by
    unfold namedL
    have hi := letters_inner c hl
    rw [if_neg (by simp), if_neg (by simp only [List.take_succ_cons, List.take_zero]; rw [runL_cons, if_pos hl]; omega), runL_cons, if_pos hi]
    split <;> omega
  refine oneIs_read ?_ (by omega)
  rw [read_plain hp, int_letter hl, if_neg (by omega), if_pos h0]
theorem one_sign {c : UInt8} {r : List UInt8} (hp : plainB c = true) (hd : digitsL.contains c = false) (hm : c = 45 → runL digitsL r = 0) (hl : lettersL.contains c = false) :
    OneIs 5 ((c :: r).take (signL (c :: r))) (signL (c :: r)) (c :: r) := by
  have hi : intL (c :: r) = 0 := by
    by_cases h45 : c = 45
    · subst h45
      rw [int_minus, hm rfl]; rfl
    · rw [int_digit h45, runL_cons, hd]; rfl
  refine oneIs_read ?_ (by omega)
  rw [read_plain hp, hi, named_digit r hl]
  rfl
theorem oneIs_text {r : List UInt8} : OneIs 3 (quotL (34 :: r)).1 (quotL (34 :: r)).2 (34 :: r) := by
  have hb0 : brL 40 (34 :: r) = 0 := br_miss (by decide)
  have hb1 : brL 41 (34 :: r) = 0 := br_miss (by decide)
  have ht : textL (34 :: r) = (3, quotL (34 :: r)) := by unfold textL; exact if_pos rfl
  by_cases h : 0 < (quotL (34 :: r)).2
  · refine oneIs_read (k := 3) ?_ (by omega)
    unfold readL
    simp only [rdL, hb0, hb1, ht]
    rw [if_neg (by omega), if_neg (by omega), if_pos h]
  · have h0 : (quotL (34 :: r)).2 = 0 := by omega
    rw [h0]
    refine oneIs_zero (one_zero ?_)
    unfold readL
    simp only [rdL, hb0, hb1, ht]
    rw [if_neg (by omega), if_neg (by omega), if_neg h]
    have hi : intL (34 :: r) = 0 := by rw [int_digit (by decide), runL_cons]; rfl
    rw [hi, named_digit r (by decide), sign_none r (by decide)]
    rfl
theorem one_open (r : List UInt8) : oneL (40 :: r) = (0, [], 1) := by
  have : readL (40 :: r) = (0, [], 1) := by
    unfold readL
    have : brL 40 (40 :: r) = 1 := by simp [brL, runL]
    simp only [rdL, this]
    rfl
  unfold oneL
  rw [this]; rfl
theorem one_close (r : List UInt8) : oneL (41 :: r) = (1, [], 1) := by
  have : readL (41 :: r) = (1, [], 1) := by
    unfold readL
    have h1 : brL 40 (41 :: r) = 0 := br_miss (by decide)
    have h2 : brL 41 (41 :: r) = 1 := by simp [brL, runL]
    simp only [rdL, h1, h2]
    rfl
  unfold oneL
  rw [this]; rfl
end Go.Proofs.YtndejiminaopeaaDoor
