/- reads, fails by their contracts. -/
import Derived.Test.YtndejiminaopeaaDoorSame
namespace Go.Proofs.YtndejiminaopeaaDoor
open Go.RowKit

theorem tk_le {l : List Tk} {i : Nat} (h : i < l.length) : (tksV l)[i * 3]? = some (.int .i64 ((l[i]'h).kind : Int)) ∧ (tksV l)[i * 3 + 1]? = some (.string (bs (l[i]'h).text)) ∧ (tksV l)[i * 3 + 2]? = some (.int .i64 ((l[i]'h).pos : Int)) := by
  induction l generalizing i with
  | nil => simp at h
  | cons t r ih =>
    cases i with
    | zero => simp [tksV, tkV]
    | succ i =>
      have h' : i < r.length := by simpa using h
      have e : ∀ k, (tksV (t :: r))[(i + 1) * 3 + k]? = (tksV r)[i * 3 + k]? := fun k => by
        show (tkV t ++ tksV r)[(i + 1) * 3 + k]? = _
        rw [List.getElem?_append_right (by simp [tkV]; omega)]
        congr 1
        simp [tkV]; omega
      have := ih h'
      refine ⟨(e 0).trans this.1, (e 1).trans this.2.1, (e 2).trans this.2.2⟩
theorem rowAt_owned {W : World} {b : Nat} {v : Value} {l : List Tk} (h : W.ownsRow b 43 3 v l.length (tksV l)) : RowAt W v l := by
  rcases h.2 with ⟨rfl, h0⟩ | ⟨g, cap, cur, rfl, _, hg, hcap, _, _, htake⟩
  · have : l = [] := List.length_eq_zero_iff.1 h0
    subst this
    exact ⟨none, 0, rfl, Nat.le_refl _, fun i hi => by simp at hi⟩
  · refine ⟨_, cap, rfl, hcap, fun i hi => ⟨_, rfl, ?_⟩⟩
    have key : ∀ k u, k < 3 → (tksV l)[i * 3 + k]? = some u → W.cell? ⟨g, i * 3 + k, none⟩ = some u := fun k u hk hu => by
      rw [cell_of hg]
      rw [← htake, List.getElem?_take_of_lt (by omega)] at hu
      simpa using hu
    obtain ⟨h1, h2, h3⟩ := tk_le hi
    have ea : (⟨g, 0, none⟩ : Addr).add (i * 3) = ⟨g, i * 3, none⟩ := by by_cases h0 : i * 3 = 0 <;> simp [Addr.add, h0]
    rw [ea]
    exact ⟨key 0 _ (by omega) h1, key 1 _ (by omega) h2, key 2 _ (by omega) h3⟩
theorem RowAt.below {w w' : World} {v : Value} {l : List Tk} (h : RowAt w v l) (hb : Below w.heap.size w w') : RowAt w' v l := by
  obtain ⟨A, c, rfl, hc, HA⟩ := h
  have low : ∀ {p : Addr} {u : Value}, w.cell? p = some u → w'.cell? p = some u := fun {p u} h => (hb.cell (p := p) (by rcases Nat.lt_or_ge p.block w.heap.size with h1 | h1; exact h1; simp [World.cell?, Array.getElem?_eq_none h1] at h)).trans h
  refine ⟨A, c, rfl, hc, fun i hi => ?_⟩
  obtain ⟨a, ha, h1, h2, h3⟩ := HA i hi
  exact ⟨a, ha, low h1, low h2, low h3⟩
theorem sameL_true (a b : List Tk) : sameL true a b = decide (a = b) := by
  unfold sameL
  induction a generalizing b with
  | nil => cases b <;> simp
  | cons x a ih =>
    cases b with
    | nil => simp
    | cons y b =>
      have := ih b
      simp only [List.length_cons, List.zip_cons_cons, List.all_cons] at *
      rw [Bool.eq_iff_iff] at *
      simp [sameT] at *
      constructor
      · rintro ⟨h1, ⟨⟨h2, h3⟩, h4⟩, h5⟩
        exact ⟨by cases x; cases y; simp_all, this.1 ⟨h1, h5⟩⟩
      · rintro ⟨rfl, h⟩
        have := this.2 h
        exact ⟨this.1, ⟨⟨rfl, rfl⟩, rfl⟩, this.2⟩

/-- What lex.Tokens hands back, in the words that the laws want. -/
def TokPost (s : ByteArray) (w : World) (e : Ending) (w' : World) : Prop :=
  ∃ v ev, e = .returned (.tuple #[v, ev]) ∧ Hid (RowAt w' v (toksL s.data.toList).1) ∧ Hid (ErrIs w' ev (toksL s.data.toList).2) ∧ Below w.heap.size w w'
theorem Tokens_any (s : ByteArray) (w : World) (hs : s.size ≤ 1000000) : Calls Tryd.prog 11 #[.string s] w (TokPost s w) :=
  (Tokens_calls s w hs).mono fun e w' ⟨v, ev, h1, h2, h3, h4⟩ => ⟨v, ev, h1, Lib.hid (rowAt_owned h2), Lib.hid (by
    revert h3
    cases (toksL s.data.toList).2 with
    | none => exact id
    | some p => exact fun h => ⟨_, h.2⟩), h4⟩

theorem toks_le (l : List UInt8) : (toksL l).1.length ≤ l.length := by
  unfold toksL
  split
  · simp
  · rw [List.length_map]; exact items_le l
theorem reads_calls (s : ByteArray) (vl : Value) (l : List Tk) (w : World) (hs : s.size ≤ 1000000) (hl : RowAt w vl l) :
    Calls Tryd.prog 20 #[.string s, vl] w fun e w' => e = .returned (.bool (decide (toksL s.data.toList = (l, none)))) ∧ Below w.heap.size w w' := by
  go_enter Tryd.func20, Tryd.ntmps20
  go_wp2_with fail
  refine (Tokens_any s _ hs).mono ?_
  rintro e w1 ⟨v, ev, rfl, HR, HE, hb⟩
  have hll := Lib.hid (hl.below hb)
  have hle := toks_le s.data.toList
  rw [← Lib.size_eq] at hle
  rcases ht : toksL s.data.toList with ⟨t, o⟩
  rw [ht] at HR HE hle
  cases o with
  | none =>
    obtain rfl : ev = .nilIface := HE.out
    have Ht := Lib.hid ht
    clear ht
    go_wp2_with fail
    refine (Same_calls _ _ _ _ true _ HR.out hll.out (by omega)).mono ?_
    rintro e w2 ⟨rfl, hb2⟩
    go_wp2_with fail
    go_ret
    refine ⟨ret_bool ?_, hb.trans (hb2.mono hb.size)⟩
    rw [Ht.out, sameL_true]
    simp
  | some p =>
    obtain ⟨lo, eb, rfl, _⟩ := HE.out
    have Ht := Lib.hid ht
    clear ht
    go_wp2_with fail
    go_ret
    refine ⟨ret_bool ?_, hb⟩
    rw [Ht.out]
    simp

theorem reads_is (b : Bool) (s : ByteArray) (vl : Value) (l : List Tk) (w : World) (hs : s.size ≤ 1000000) (hl : RowAt w vl l) (h : decide (toksL s.data.toList = (l, none)) = b) :
    Calls Tryd.prog 20 #[.string s, vl] w fun e w' => e = .returned (.bool b) ∧ Below w.heap.size w w' := by
  have := reads_calls s vl l w hs hl
  rw [h] at this
  exact this
/-- fails -/
def failsB (s : List UInt8) (k : Int) : Bool := match (toksL s).2 with | none => false | some p => decide ((p : Int) = k)
theorem toks_none (l : List UInt8) {t : List Tk} {p : Nat} (h : toksL l = (t, some p)) : t = [] := by
  unfold toksL at h
  split at h
  · cases h; rfl
  · cases h
theorem fails_calls (s : ByteArray) (k : Int) (w : World) (hs : s.size ≤ 1000000) (hg : Laid0 w) :
    Calls Tryd.prog 21 #[.string s, .int .i64 k] w fun e w' => e = .returned (.bool (failsB s.data.toList k)) ∧ Below w.heap.size w w' := by
  go_enter Tryd.func21, Tryd.ntmps21
  go_wp2_with fail
  refine (Tokens_any s _ hs).mono ?_
  rintro e w1 ⟨v, ev, rfl, HR, HE, hb⟩
  have hg1 := Lib.hid (hg.below hb)
  rcases ht : toksL s.data.toList with ⟨t, o⟩
  rw [ht] at HR HE
  obtain ⟨A, c, rfl, _, _⟩ := HR.out
  have Ht := Lib.hid ht
  cases o with
  | none =>
    have hf : failsB s.data.toList k = false := by unfold failsB; rw [ht]
    have Hf := Lib.hid hf
    clear ht hf
    by_cases hn : t.length = 0
    · go_wp2_with fail
      refine (told_at _ none k _ hg1.out HE.out).mono ?_
      rintro e w2 ⟨rfl, hb2⟩
      go_wp2_with fail
      go_ret
      exact ⟨ret_bool Hf.out.symm, hb.trans (hb2.mono hb.size)⟩
    · have hn2 : ((t.length : Int) == 0) = false := by simp; intro h; simp [h] at hn
      clear hn
      go_wp2_with fail
      go_ret
      exact ⟨ret_bool Hf.out.symm, hb⟩
  | some p =>
    obtain rfl := toks_none _ ht
    have hf : failsB s.data.toList k = decide ((p : Int) = k) := by unfold failsB; rw [ht]
    have Hf := Lib.hid hf
    clear ht hf
    go_wp2_with fail
    refine (told_at _ (some p) k _ hg1.out HE.out).mono ?_
    rintro e w2 ⟨rfl, hb2⟩
    go_wp2_with fail
    go_ret
    exact ⟨ret_bool Hf.out.symm, hb.trans (hb2.mono hb.size)⟩
theorem fails_is (b : Bool) (s : ByteArray) (k : Int) (w : World) (hs : s.size ≤ 1000000) (hg : Laid0 w) (h : failsB s.data.toList k = b) :
    Calls Tryd.prog 21 #[.string s, .int .i64 k] w fun e w' => e = .returned (.bool b) ∧ Below w.heap.size w w' := by
  have := fails_calls s k w hs hg
  rw [h] at this
  exact this
/-- A row of tokens, written out. -/
theorem rowAt_lit {w : World} (l : List Tk) {cs : Array Value} {n : Nat} (hc : cs = (tksV l).toArray) (hn : n = l.length) : RowAt (w.alloc (.cells cs 43)) (.slice (some ⟨w.heap.size, 0, none⟩) n n) l := by
  subst hc hn
  refine ⟨_, _, rfl, Nat.le_refl _, fun i hi => ⟨_, rfl, ?_⟩⟩
  have key : ∀ k u, (tksV l)[i * 3 + k]? = some u → (w.alloc (.cells (tksV l).toArray 43)).cell? ⟨w.heap.size, i * 3 + k, none⟩ = some u := fun k u hu => by
    rw [cell_of (heap_new w _ _ rfl)]
    simpa using hu
  obtain ⟨h1, h2, h3⟩ := tk_le hi
  have ea : (⟨w.heap.size, 0, none⟩ : Addr).add (i * 3) = ⟨w.heap.size, i * 3, none⟩ := by by_cases h0 : i * 3 = 0 <;> simp [Addr.add, h0]
  rw [ea]
  exact ⟨key 0 _ h1, key 1 _ h2, key 2 _ h3⟩
/-- New memory, then a call that makes new memory alone. -/
theorem below_new {w w' : World} {o : Obj} (h : Below (w.alloc o).heap.size (w.alloc o) w') : Below w.heap.size w w' := ((Below.refl _ w).alloc (Nat.le_refl _) o).trans (h.mono (by simp))
end Go.Proofs.YtndejiminaopeaaDoor
