/- LexJoins: the plain law. -/
import Derived.Test.YtndejiminaopeaaDoorAlonePlain
import Derived.Test.YtndejiminaopeaaDoorIter
namespace Go.Proofs.YtndejiminaopeaaDoor
open Go

/-- The next round's text, place and what it yields. -/
theorem itemsGo_succ (k p : Nat) (l : List UInt8) : itemsGo (k + 1) p l = (if l = [] then [] else
    if 0 < runL blanksL l then itemsGo k (p + runL blanksL l) (l.drop (runL blanksL l)) else
    if l.head? = some 59 then itemsGo k (p + lineL l) (l.drop (lineL l)) else
    if (oneL l).2.2 = 0 then [⟨(oneL l).1, (oneL l).2.1, p, 0⟩] else
    ⟨(oneL l).1, (oneL l).2.1, p, (oneL l).2.2⟩ :: itemsGo k (p + (oneL l).2.2) (l.drop (oneL l).2.2)) := rfl
theorem itemsGo_fuel : ∀ (k k' p : Nat) (l : List UInt8), l.length ≤ k → l.length ≤ k' → itemsGo k p l = itemsGo k' p l := by
  intro k
  induction k with
  | zero =>
    intro k' p l h h'
    have : l = [] := List.length_eq_zero_iff.1 (by omega)
    subst this
    rw [itemsGo_nil, itemsGo_nil]
  | succ k ih =>
    intro k' p l h h'
    by_cases hl : l = []
    · subst hl; rw [itemsGo_nil, itemsGo_nil]
    · have h0 : 0 < l.length := List.length_pos_iff.2 hl
      obtain ⟨k', rfl⟩ : ∃ m, k' = m + 1 := ⟨k' - 1, by omega⟩
      have go : ∀ n q, 0 < n → itemsGo k q (l.drop n) = itemsGo k' q (l.drop n) := fun n q hn => ih k' q _ (by rw [List.length_drop]; omega) (by rw [List.length_drop]; omega)
      rw [itemsGo_succ, itemsGo_succ, if_neg hl, if_neg hl]
      split
      · exact go _ _ (by assumption)
      · split
        · exact go _ _ (lineL_pos (by assumption))
        · split
          · rfl
          · rw [go _ _ (by omega)]
def shiftI (d : Nat) (x : Item) : Item := { x with pos := x.pos + d }
theorem itemsGo_shift (d : Nat) : ∀ (k p : Nat) (l : List UInt8), itemsGo k (p + d) l = (itemsGo k p l).map (shiftI d) := by
  intro k
  induction k with
  | zero => intro p l; rfl
  | succ k ih =>
    intro p l
    rw [itemsGo_succ, itemsGo_succ]
    split
    · rfl
    · split
      · rw [Nat.add_right_comm]; exact ih _ _
      · split
        · rw [Nat.add_right_comm]; exact ih _ _
        · split
          · rfl
          · rw [List.map_cons, Nat.add_right_comm, ih]; rfl
/-- Some of the blanks may be skipped at once. -/
theorem blank_skip {l : List UInt8} {b : Nat} (hb : b ≤ runL blanksL l) (p : Nat) : itemsGo l.length p l = itemsGo (l.drop b).length (p + b) (l.drop b) := by
  by_cases h0 : b = 0
  · subst h0; simp
  · have hle := runL_le blanksL l
    have hl : l ≠ [] := by rintro rfl; simp [runL_nil] at hb; omega
    obtain ⟨k, hk⟩ : ∃ k, l.length = k + 1 := ⟨l.length - 1, by have := List.length_pos_iff.2 hl; omega⟩
    have hd : ∀ (l : List UInt8) (b : Nat), b ≤ runL blanksL l → runL blanksL (l.drop b) = runL blanksL l - b := by
      intro l
      induction l with
      | nil => intro b _; simp [runL_nil]
      | cons c r ih =>
        intro b hb
        cases b with
        | zero => simp
        | succ b =>
          rw [runL_cons] at hb ⊢
          by_cases hc : blanksL.contains c = true
          · rw [if_pos hc] at hb ⊢
            rw [List.drop_succ_cons, ih b (by omega)]
            omega
          · rw [if_neg hc] at hb; omega
    rw [hk, itemsGo_succ, if_neg hl, if_pos (by omega)]
    by_cases he : b = runL blanksL l
    · rw [he]
      exact itemsGo_fuel _ _ _ _ (by rw [List.length_drop]; omega) (by rw [List.length_drop]; exact Nat.le_refl _)
    · have hl2 : l.drop b ≠ [] := by
        intro h
        have := congrArg List.length h
        rw [List.length_drop] at this
        simp at this; omega
      obtain ⟨j, hj⟩ : ∃ j, (l.drop b).length = j + 1 := ⟨(l.drop b).length - 1, by have := List.length_pos_iff.2 hl2; omega⟩
      rw [hj, itemsGo_succ, if_neg hl2, hd l b hb, if_pos (by omega), List.drop_drop]
      have e1 : p + b + (runL blanksL l - b) = p + runL blanksL l := by omega
      have e2 : b + (runL blanksL l - b) = runL blanksL l := by omega
      rw [e1, e2]
      refine itemsGo_fuel _ _ _ _ ?_ ?_
      · rw [List.length_drop]; omega
      · rw [List.length_drop] at hj ⊢; omega

/-! ### a line end stops each reader -/
theorem runL_nl {of : List UInt8} (h : of.contains 10 = false) (l t : List UInt8) : runL of (l ++ 10 :: t) = runL of l := by
  induction l with
  | nil => rw [List.nil_append, runL_cons, h]; rfl
  | cons c r ih => rw [List.cons_append, runL_cons, runL_cons, ih]
theorem runL_take1 (of : List UInt8) {l : List UInt8} (hl : l ≠ []) (t : List UInt8) : runL of ((l ++ t).take 1) = runL of (l.take 1) := by
  cases l with
  | nil => exact absurd rfl hl
  | cons c r => simp
theorem pre_nl : ∀ (x l t : List UInt8), (10 : UInt8) ∉ x → Lib.hasPrefix (l ++ 10 :: t) x = Lib.hasPrefix l x := by
  intro x
  induction x with
  | nil => intro l t _; simp [Lib.hasPrefix]
  | cons c x ih =>
    intro l t h
    cases l with
    | nil =>
      have : c ≠ 10 := fun e => h (by simp [e])
      show (c == 10 && _) = false
      simp [this]
    | cons d l =>
      show (c == d && x.isPrefixOf (l ++ 10 :: t)) = (c == d && x.isPrefixOf l)
      rw [show x.isPrefixOf (l ++ 10 :: t) = x.isPrefixOf l from ih l t (fun e => h (by simp [e]))]
theorem brL_nl (c : UInt8) {l : List UInt8} (hl : l ≠ []) (t : List UInt8) : brL c (l ++ t) = brL c l := by
  unfold brL
  rw [runL_take1 _ hl]
theorem trim_nl {l : List UInt8} (hl : l ≠ []) (t : List UInt8) : Lib.trimPrefix (l ++ t) [45] = Lib.trimPrefix l [45] ++ t := by
  cases l with
  | nil => exact absurd rfl hl
  | cons c r =>
    by_cases h : c = 45
    · subst h; simp [Lib.trimPrefix, Lib.hasPrefix]
    · rw [List.cons_append, (trim_ne h).1, (trim_ne h).1]; rfl
theorem trim_len (l : List UInt8) : (Lib.trimPrefix l [45]).length ≤ l.length := Lib.trimPrefix_le _ _
theorem intL_nl {l : List UInt8} (hl : l ≠ []) (t : List UInt8) : intL (l ++ 10 :: t) = intL l := by
  have hn : (l ++ 10 :: t).length - (Lib.trimPrefix (l ++ 10 :: t) [45]).length = l.length - (Lib.trimPrefix l [45]).length := by
    rw [trim_nl hl, List.length_append, List.length_append]; omega
  unfold intL
  rw [hn]
  generalize hm : l.length - (Lib.trimPrefix l [45]).length = n
  have hle : n ≤ l.length := by omega
  simp only [List.drop_append_of_le_length hle, runL_nl (show digitsL.contains 10 = false by decide)]
  have h2 : n + runL digitsL (l.drop n) ≤ l.length := by
    have := runL_le digitsL (l.drop n)
    rw [List.length_drop] at this
    omega
  rw [List.take_append_of_le_length h2]
theorem namedL_nl {l : List UInt8} (hl : l ≠ []) (t : List UInt8) : namedL (l ++ 10 :: t) = namedL l := by
  unfold namedL
  rw [if_neg (by simp), if_neg hl, runL_take1 _ hl, runL_nl (by decide), List.drop_append_of_le_length (runL_le _ _), pre_nl _ _ _ (by decide)]
theorem signL_nl (l t : List UInt8) : signL (l ++ 10 :: t) = signL l := by
  unfold signL
  have : signs.find? (fun x => Lib.hasPrefix (l ++ 10 :: t) x) = signs.find? (fun x => Lib.hasPrefix l x) := by
    have : ∀ (S : List (List UInt8)), (∀ x ∈ S, (10 : UInt8) ∉ x) → S.find? (fun x => Lib.hasPrefix (l ++ 10 :: t) x) = S.find? (fun x => Lib.hasPrefix l x) := by
      intro S
      induction S with
      | nil => intro _; rfl
      | cons x S ih =>
        intro h
        rw [List.find?_cons, List.find?_cons, pre_nl x l t (h x (by simp)), ih (fun y hy => h y (by simp [hy]))]
    exact this signs (by decide)
  rw [this]
theorem escL_nl (r t : List UInt8) : escL (r ++ 10 :: t) = escL r := by
  have h10 : smallL.contains 10 = false := by decide
  match r with
  | [] => simp [escL]
  | [c] =>
    simp only [List.cons_append, List.nil_append, escL]
    split
    · rfl
    · split
      · rfl
      · split
        · rfl
        · split
          · cases t with
            | nil => rfl
            | cons b t =>
              simp only
              rw [if_neg (by rw [runL_cons, h10]; simp)]
          · rfl
  | [c, a] =>
    simp only [List.cons_append, List.nil_append, escL]
    split
    · rfl
    · split
      · rfl
      · split
        · rfl
        · split
          · rw [if_neg (by rw [runL_cons, runL_cons, h10]; split <;> simp)]
          · rfl
  | c :: a :: b :: r => simp only [List.cons_append, escL]
theorem quotGo_nl (t : List UInt8) : ∀ (k k' : Nat) (l : List UInt8) (n : Nat) (acc : List UInt8), l.length ≤ k → l.length + 1 ≤ k' → quotGo k' (l ++ 10 :: t) n acc = quotGo k l n acc := by
  intro k
  induction k with
  | zero =>
    intro k' l n acc h h'
    have : l = [] := List.length_eq_zero_iff.1 (by omega)
    subst this
    obtain ⟨k', rfl⟩ : ∃ m, k' = m + 1 := ⟨k' - 1, by omega⟩
    simp [quotGo]
  | succ k ih =>
    intro k' l n acc h h'
    obtain ⟨k', rfl⟩ : ∃ m, k' = m + 1 := ⟨k' - 1, by omega⟩
    cases l with
    | nil => simp [quotGo]
    | cons c r =>
      rw [List.length_cons] at h h'
      simp only [List.cons_append, quotGo]
      split
      · rfl
      · split
        · rw [escL_nl]
          have := escL_le r
          split
          · rfl
          · rw [List.drop_append_of_le_length this]
            exact ih _ _ _ _ (by rw [List.length_drop]; omega) (by rw [List.length_drop]; omega)
        · split
          · rfl
          · exact ih _ _ _ _ (by omega) (by omega)
theorem quotL_nl {l : List UInt8} (hl : l ≠ []) (t : List UInt8) : quotL (l ++ 10 :: t) = quotL l := by
  obtain ⟨c, r, rfl⟩ := List.exists_cons_of_ne_nil hl
  unfold quotL
  simp only [List.cons_append, List.drop_succ_cons, List.drop_zero]
  exact quotGo_nl t _ _ _ _ _ (by simp) (by simp)
theorem head_app {l : List UInt8} (hl : l ≠ []) (t : List UInt8) : (l ++ t).head? = l.head? := by
  cases l with
  | nil => exact absurd rfl hl
  | cons c r => rfl
theorem rdL_nl (i : Nat) {l : List UInt8} (hl : l ≠ []) (t : List UInt8) : rdL i (l ++ 10 :: t) = rdL i l := by
  match i with
  | 0 => simp only [rdL, brL_nl _ hl]
  | 1 => simp only [rdL, brL_nl _ hl]
  | 2 => simp only [rdL, textL, head_app hl, quotL_nl hl]
  | 3 =>
    simp only [rdL, intL_nl hl]
    rw [List.take_append_of_le_length (intL_le l)]
  | 4 =>
    simp only [rdL, namedL_nl hl]
    rw [List.take_append_of_le_length (namedL_le l)]
  | (n + 5) =>
    simp only [rdL, signL_nl]
    rw [List.take_append_of_le_length (signL_le l)]
theorem readL_nl {l : List UInt8} (hl : l ≠ []) (t : List UInt8) : readL (l ++ 10 :: t) = readL l := by
  unfold readL
  simp only [rdL_nl _ hl]
theorem parted_nl (r t : List UInt8) : partedL (r ++ 10 :: t) = partedL r := by
  cases r with
  | nil => simp only [List.nil_append, partedL]; decide
  | cons c r => rfl
theorem oneL_nl {l : List UInt8} (hl : l ≠ []) (t : List UInt8) : oneL (l ++ 10 :: t) = oneL l := by
  unfold oneL
  rw [readL_nl hl, List.drop_append_of_le_length (readL_le l hl), parted_nl]
theorem index_nl : ∀ (l t : List UInt8), Lib.indexByte (l ++ 10 :: t) 10 = if 0 ≤ Lib.indexByte l 10 then Lib.indexByte l 10 else (l.length : Int) := by
  intro l
  induction l with
  | nil => intro t; simp [Lib.indexByte]
  | cons c r ih =>
    intro t
    by_cases hc : c = 10
    · subst hc; simp [Lib.indexByte]
    · have e : ∀ q, Lib.indexByte (c :: q) 10 = if Lib.indexByte q 10 == -1 then -1 else Lib.indexByte q 10 + 1 := fun q => by
        show (if c == 10 then (0 : Int) else _) = _
        rw [if_neg (by simpa using hc)]
      rw [List.cons_append, e, e, ih]
      have hge := Lib.indexByte_ge r 10
      by_cases h0 : 0 ≤ Lib.indexByte r 10
      · have h1 : (Lib.indexByte r 10 == -1) = false := by simp; omega
        rw [if_pos h0, h1]
        simp; omega
      · have h1 : Lib.indexByte r 10 = -1 := by omega
        rw [if_neg h0, h1]
        simp
theorem lineL_nl (l t : List UInt8) : lineL (l ++ 10 :: t) = lineL l := by
  unfold lineL
  rw [index_nl]
  by_cases h : 0 ≤ Lib.indexByte l 10
  · rw [if_pos h, if_pos h, if_pos h]
  · rw [if_neg h, if_neg h, if_pos (by omega)]
    simp

theorem items_join (t : List UInt8) : ∀ (k p : Nat) (l : List UInt8), l.length ≤ k →
    itemsGo (l ++ 10 :: t).length p (l ++ 10 :: t) = if (itemsGo k p l).all goodI then itemsGo k p l ++ itemsGo t.length (p + l.length + 1) t else itemsGo k p l := by
  intro k
  induction k with
  | zero =>
    intro p l h
    have : l = [] := List.length_eq_zero_iff.1 (by omega)
    subst this
    rw [itemsGo_nil, List.nil_append, blank_skip (b := 1) (by rw [runL_cons, if_pos (by decide)]; omega)]
    simp
  | succ k ih =>
    intro p l h
    by_cases hl : l = []
    · subst hl
      rw [itemsGo_nil, List.nil_append, blank_skip (b := 1) (by rw [runL_cons, if_pos (by decide)]; omega)]
      simp
    · have h0 : 0 < l.length := List.length_pos_iff.2 hl
      have hne : l ++ 10 :: t ≠ [] := by simp
      rw [itemsGo_succ k p l, if_neg hl]
      by_cases hb : 0 < runL blanksL l
      · rw [if_pos hb]
        have hle := runL_le blanksL l
        have hb2 : runL blanksL l ≤ runL blanksL (l ++ 10 :: t) := by
          obtain ⟨x, q, h1, h2, h3, _⟩ := runL_split blanksL l
          rw [← h2, h1, List.append_assoc, runL_all h3]
          omega
        rw [blank_skip hb2, List.drop_append_of_le_length hle, ih _ _ (by rw [List.length_drop]; omega)]
        rw [show p + runL blanksL l + (l.drop (runL blanksL l)).length + 1 = p + l.length + 1 by rw [List.length_drop]; omega]
      · obtain ⟨j, hj⟩ : ∃ j, (l ++ 10 :: t).length = j + 1 := ⟨(l ++ 10 :: t).length - 1, by rw [List.length_append]; omega⟩
        have hjl : j = l.length + t.length := by rw [List.length_append, List.length_cons] at hj; omega
        have hb0 : ¬ 0 < runL blanksL (l ++ 10 :: t) := by
          obtain ⟨c, r, rfl⟩ := List.exists_cons_of_ne_nil hl
          rw [List.cons_append, runL_cons]
          rw [runL_cons] at hb
          split
          · rename_i hc
            rw [if_pos hc] at hb
            omega
          · omega
        rw [hj, itemsGo_succ, if_neg hne, if_neg hb0, if_neg hb, head_app hl, lineL_nl, oneL_nl hl]
        have go : ∀ n, 0 < n → n ≤ l.length → itemsGo j (p + n) ((l ++ 10 :: t).drop n) = if (itemsGo k (p + n) (l.drop n)).all goodI then itemsGo k (p + n) (l.drop n) ++ itemsGo t.length (p + l.length + 1) t else itemsGo k (p + n) (l.drop n) := by
          intro n hn hn2
          rw [List.drop_append_of_le_length hn2]
          rw [itemsGo_fuel j (l.drop n ++ 10 :: t).length _ _ (by rw [List.length_append, List.length_drop, List.length_cons]; omega) (Nat.le_refl _)]
          rw [ih _ _ (by rw [List.length_drop]; omega)]
          rw [show p + n + (l.drop n).length + 1 = p + l.length + 1 by rw [List.length_drop]; omega]
        by_cases h59 : l.head? = some 59
        · rw [if_pos h59, if_pos h59]
          exact go _ (lineL_pos h59) (lineL_le l)
        · rw [if_neg h59, if_neg h59]
          by_cases hn : (oneL l).2.2 = 0
          · rw [if_pos hn, if_pos hn]
            simp [goodI]
          · rw [if_neg hn, if_neg hn, go _ (by omega) (oneL_le l hl)]
            have hg : goodI ⟨(oneL l).1, (oneL l).2.1, p, (oneL l).2.2⟩ = true := by simp [goodI, hn]
            rw [List.all_cons, hg, Bool.true_and]
            split <;> rfl

theorem items_pos : ∀ (k p : Nat) (l : List UInt8), ∀ x ∈ itemsGo k p l, p ≤ x.pos ∧ x.pos < p + l.length := by
  intro k
  induction k with
  | zero => intro p l x hx; cases hx
  | succ k ih =>
    intro p l x hx
    rw [itemsGo_succ] at hx
    by_cases hl : l = []
    · rw [if_pos hl] at hx; cases hx
    · have h0 : 0 < l.length := List.length_pos_iff.2 hl
      have go : ∀ n, n ≤ l.length → x ∈ itemsGo k (p + n) (l.drop n) → p ≤ x.pos ∧ x.pos < p + l.length := fun n hn h => by
        have := ih _ _ x h
        rw [List.length_drop] at this
        omega
      rw [if_neg hl] at hx
      split at hx
      · exact go _ (runL_le _ _) hx
      · split at hx
        · exact go _ (lineL_le _) hx
        · split at hx
          · simp at hx; subst hx; simp; omega
          · rcases List.mem_cons.1 hx with rfl | hx
            · simp; omega
            · exact go _ (oneL_le l hl) hx
theorem toks_pos {l : List UInt8} {a : List Tk} {p : Nat} (h : toksL l = (a, some p)) : p < l.length := by
  unfold toksL at h
  split at h
  · rename_i x hx
    cases h
    have := items_pos _ _ _ x (List.mem_of_find?_eq_some hx)
    omega
  · cases h
theorem toks_pos_all {l : List UInt8} {a : List Tk} {o : Option Nat} (h : toksL l = (a, o)) : ∀ x ∈ a, x.pos < l.length := by
  unfold toksL at h
  split at h
  · cases h; simp
  · cases h
    intro x hx
    obtain ⟨y, hy, rfl⟩ := List.mem_map.1 hx
    have := items_pos _ _ _ y hy
    show y.pos < _
    omega
def shiftT (d : Nat) (x : Tk) : Tk := { x with pos := x.pos + d }
theorem toks_join (s t : List UInt8) : toksL (s ++ 10 :: t) = match toksL s with
    | (_, some p) => ([], some p)
    | (a, none) => match toksL t with
      | (_, some p) => ([], some (p + (s.length + 1)))
      | (b, none) => (a ++ b.map (shiftT (s.length + 1)), none) := by
  have hj := items_join t s.length 0 s (Nat.le_refl _)
  have hsh := itemsGo_shift (s.length + 1) t.length 0 t
  rw [show 0 + s.length + 1 = 0 + (s.length + 1) by omega, hsh] at hj
  have hJ : items (s ++ 10 :: t) = if (items s).all goodI then items s ++ (items t).map (shiftI (s.length + 1)) else items s := hj
  unfold toksL
  rw [hJ]
  cases hf : (items s).find? (fun x => !goodI x) with
  | some x =>
    have : (items s).all goodI = false := by
      rw [List.all_eq_false]
      exact ⟨x, List.mem_of_find?_eq_some hf, by have := List.find?_some hf; simpa using this⟩
    rw [this]
    simp [hf]
  | none =>
    have hall : (items s).all goodI = true := by
      rw [List.all_eq_true]
      intro x hx
      have := List.find?_eq_none.1 hf x hx
      simpa using this
    rw [hall, if_pos rfl, List.find?_append, hf]
    have hm : ((items t).map (shiftI (s.length + 1))).find? (fun x => !goodI x) = ((items t).find? (fun x => !goodI x)).map (shiftI (s.length + 1)) := by
      rw [List.find?_map]; rfl
    rw [Option.none_or, hm]
    cases hg : (items t).find? (fun x => !goodI x) with
    | some y => simp [shiftI]
    | none => simp [shiftI, shiftT, tkOf, Function.comp_def]
end Go.Proofs.YtndejiminaopeaaDoor
