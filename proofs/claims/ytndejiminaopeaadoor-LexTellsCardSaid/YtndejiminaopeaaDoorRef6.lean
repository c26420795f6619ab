/- litmusref05.Tokens by its contract. -/
import Derived.Test.YtndejiminaopeaaDoorRef5
import Derived.Test.YtndejiminaopeaaDoorJoinsB
namespace Go.Proofs.YtndejiminaopeaaDoor
open Go.RowKit

theorem indexByte_ge (l : List UInt8) (c : UInt8) : -1 ≤ Lib.indexByte l c := by
  induction l with
  | nil => simp [Lib.indexByte]
  | cons a l ih => simp only [Lib.indexByte]; split <;> (try split) <;> omega
theorem lineL_cons (c : UInt8) (r : List UInt8) : lineL (c :: r) = if c = 10 then 0 else lineL r + 1 := by
  unfold lineL
  by_cases h : c = 10
  · subst h; simp [Lib.indexByte]
  · have hi : Lib.indexByte (c :: r) 10 = if Lib.indexByte r 10 < 0 then -1 else Lib.indexByte r 10 + 1 := by
      have := indexByte_ge r 10
      simp [Lib.indexByte, h]
      by_cases h1 : Lib.indexByte r 10 = -1
      · rw [if_pos h1, if_pos (by omega)]
      · rw [if_neg h1, if_neg (by omega)]
    rw [if_neg h, hi]
    by_cases h0 : Lib.indexByte r 10 < 0
    · rw [if_pos h0, if_neg (by omega), if_neg (by omega)]; simp
    · rw [if_neg h0, if_pos (by omega), if_pos (by omega)]; omega
theorem owns_setCell {w : World} {base b o : Nat} {e : TypeId} {size : Nat} {v u : Value} {n : Nat} {xs : List Value} (h : w.ownsRow base e size v n xs) (hb : b < base) : (w.setCell ⟨b, o, none⟩ u).ownsRow base e size v n xs := by
  refine ⟨h.1, ?_⟩
  rcases h.2 with hn | ⟨g, cap, cur, rfl, hbg, hgg, rest⟩
  · exact .inl hn
  · exact .inr ⟨g, cap, cur, rfl, hbg, (heap_set_ne (by omega) _ _).trans hgg, rest⟩
theorem owns_lit (W : World) (t : Tk) (base : Nat) (hb : base ≤ W.heap.size) : (W.alloc (.cells #[.int .i64 (t.kind : Int), .string (bs t.text), .int .i64 (t.pos : Int)] 43)).ownsRow base 43 3 (.slice (some ⟨W.heap.size, 0, none⟩) 1 1) 1 (tksV [t]) :=
  ⟨rfl, .inr ⟨_, 1, _, rfl, hb, heap_new _ _ _ rfl, Nat.le_refl _, by decide, rfl, rfl⟩⟩
theorem resToks {tmps : Array Value} {W : World} {n0 : Nat} {v : Value} {a b : Int} (hv : W.heap[n0]? = some (.cells #[.int .i64 a, .int .i64 b] 33 (0, 0)))
    (h2 : tmps.getD 2 undef = v) (h3 : tmps.getD 3 undef = .pointer (some ⟨n0, 0, none⟩)) :
    (results Tryd.f12 tmps).run Tryd.prog W = .ok (.tuple #[v, .agg #[.int .i64 a, .int .i64 b]]) W := by
  have c := cell_of hv 0
  have c' := cell_of hv 1
  have r : (Tryd.f12).results = #[.tmp 2, .cell 3 33] := rfl
  have g2 : tmps[2]?.getD undef = v := by rw [← h2]; simp
  have g3 : tmps[3]?.getD undef = .pointer (some ⟨n0, 0, none⟩) := by rw [← h3]; simp
  have z : (sizeOf 33).run Tryd.prog W = .ok 2 W := by kernel_rfl
  have iag : (isAgg 33).run Tryd.prog W = .ok true W := by kernel_rfl
  simp [results, r, g2, g3, go_sem, c, c', z, iag]
theorem rowAt_nil (w : World) : RowAt w (.slice none 0 0) [] := ⟨none, 0, rfl, Nat.le_refl _, fun i h => absurd h (Nat.not_lt_zero _)⟩
/-- What litmusref05.Tokens hands back. -/
def RefToks (s : ByteArray) (w : World) (e : Ending) (w' : World) : Prop :=
  ∃ v, e = .returned (.tuple #[v, faultV (toksL s.data.toList).2]) ∧ RowAt w' v (toksL s.data.toList).1 ∧ Below w.heap.size w w'

/-- Between two rounds. -/
def RInv (s : ByteArray) (w : World) (a : Nat) (v : Value) (pre : List Item) (wr : World) : Prop :=
  wr.ownsRow (w.heap.size + 1) 43 3 v pre.length (tksV (pre.map tkOf)) ∧ wr.heap[w.heap.size]? = some (.cells #[.int .i64 0, .int .i64 0] 33 (0, 0)) ∧ Below w.heap.size w wr ∧ w.heap.size + 1 ≤ wr.heap.size ∧
  (∀ x ∈ pre, x.n ≠ 0) ∧ items s.data.toList = pre ++ itemsGo (s.data.toList.drop a).length a (s.data.toList.drop a) ∧ pre.length ≤ a
theorem RInv.end {s : ByteArray} {w wr : World} {a : Nat} {v : Value} {pre : List Item} (h : RInv s w a v pre wr) (ha : s.size ≤ a) :
    RefToks s w (.returned (.tuple #[v, .agg #[.int .i64 0, .int .i64 0]])) ((wr.setCell ⟨w.heap.size, 0, none⟩ (.int .i64 0)).setCell ⟨w.heap.size, 1, none⟩ (.int .i64 0)) := by
  obtain ⟨ho, _, hb, _, hg, hi, _⟩ := h
  rw [List.drop_of_length_le (by rw [← Lib.size_eq]; omega), itemsGo_nil, List.append_nil] at hi
  have ht := toks_all (l := s.data.toList) (by rw [hi]; exact hg)
  rw [hi] at ht
  refine ⟨v, by rw [ht]; rfl, ?_, (hb.setCell (Nat.le_refl _) _).setCell (Nat.le_refl _) _⟩
  rw [ht]
  have := owns_setCell (o := 1) (u := .int .i64 0) (owns_setCell (o := 0) (u := .int .i64 0) ho (Nat.lt_succ_self _)) (Nat.lt_succ_self _)
  exact rowAt_owned (by rw [List.length_map]; exact this)
theorem RInv.stop {s : ByteArray} {w wr w1 : World} {a : Nat} {v : Value} {pre : List Item} (o1 : Obj) (h : RInv s w a v pre wr) (ha : a < s.size) (hb : blanksL.contains (s[a]'ha) = false) (h59 : s[a]'ha ≠ 59) (hn : (oneL (s.data.toList.drop a)).2.2 = 0) (hbw : Below wr.heap.size wr w1) :
    RefToks s w (.returned (.tuple #[.slice none 0 0, .agg #[.int .i64 4, .int .i64 (a : Int)]])) (((w1.setCell ⟨w.heap.size, 0, none⟩ (.int .i64 4)).setCell ⟨w.heap.size, 1, none⟩ (.int .i64 (a : Int))).alloc o1) := by
  obtain ⟨ho, _, hb0, hsz, hg, hi, _⟩ := h
  have hl := drop_at s a ha
  have hlen : (s.data.toList.drop a).length = (s.data.toList.drop (a + 1)).length + 1 := by rw [hl]; rfl
  rw [hlen, itemsGo_succ, if_neg (by rw [hl]; simp), if_neg (by rw [hl, runL_cons, hb]; simp), if_neg (by rw [hl]; simpa using h59), if_pos hn] at hi
  have ht := toks_stop (l := s.data.toList) (p := pre) (x := (⟨(oneL (s.data.toList.drop a)).1, (oneL (s.data.toList.drop a)).2.1, a, 0⟩ : Item)) (by rw [hi]; exact List.prefix_refl _) rfl hg
  refine ⟨.slice none 0 0, by rw [ht]; rfl, by rw [ht]; exact rowAt_nil _, ?_⟩
  exact ((((hb0.trans (hbw.mono (by omega))).setCell (Nat.le_refl _) _).setCell (Nat.le_refl _) _).alloc (by have := hbw.size; simp; omega) _)
theorem RInv.blank {s : ByteArray} {w wr : World} {a : Nat} {v : Value} {pre : List Item} (h : RInv s w a v pre wr) (ha : a < s.size) (hb : blanksL.contains (s[a]'ha) = true) : RInv s w (a + 1) v pre wr := by
  obtain ⟨ho, hc, hb0, hsz, hg, hi, hp⟩ := h
  refine ⟨ho, hc, hb0, hsz, hg, ?_, by omega⟩
  rw [blank_skip (b := 1) (by rw [drop_at s a ha, runL_cons, if_pos hb]; omega), List.drop_drop] at hi
  exact hi
theorem RInv.line {s : ByteArray} {w wr : World} {a n : Nat} {v : Value} {pre : List Item} (h : RInv s w a v pre wr) (ha : a < s.size) (h59 : s[a]'ha = 59) (hn : n = a + lineL (s.data.toList.drop a)) : RInv s w n v pre wr := by
  obtain ⟨ho, hc, hb0, hsz, hg, hi, hp⟩ := h
  refine ⟨ho, hc, hb0, hsz, hg, ?_, by omega⟩
  rw [comment_skip (by rw [drop_at s a ha, h59]; rfl), List.drop_drop, ← hn] at hi
  exact hi
theorem RInv.next {s : ByteArray} {w wr w1 w2 : World} {a k n : Nat} {t : List UInt8} {v v' : Value} {pre : List Item} (h : RInv s w a v pre wr) (ha : a < s.size) (hb : blanksL.contains (s[a]'ha) = false) (h59 : s[a]'ha ≠ 59) (hn : n ≠ 0) (ho1 : oneL (s.data.toList.drop a) = (k, t, n)) (hbw : Below wr.heap.size wr w1)
    (o1 o2 : Obj) (hown : w2.ownsRow (w.heap.size + 1) 43 3 v' (pre.map tkOf ++ [(⟨k, t, a⟩ : Tk)]).length (tksV (pre.map tkOf ++ [(⟨k, t, a⟩ : Tk)]))) (hgr : ((w1.alloc o1).alloc o2).grownBy w2 v.ownBlock) : ∃ pre', RInv s w (a + n) v' pre' w2 := by
  obtain ⟨ho, hc, hb0, hsz, hg, hi, hp⟩ := h
  have hl := drop_at s a ha
  have hlen : (s.data.toList.drop a).length = (s.data.toList.drop (a + 1)).length + 1 := by rw [hl]; rfl
  rw [hlen, itemsGo_succ, if_neg (by rw [hl]; simp), if_neg (by rw [hl, runL_cons, hb]; simp), if_neg (by rw [hl]; simpa using h59), ho1, if_neg hn, List.drop_drop] at hi
  have hs1 := hbw.size
  have hB2 : Below wr.heap.size wr ((w1.alloc o1).alloc o2) := (hbw.alloc hs1 _).alloc (by simp; omega) _
  have hrow : ∀ k, v.ownBlock = some k → w.heap.size + 1 ≤ k := owns_lt ho
  refine ⟨pre ++ [⟨k, t, a, n⟩], ?_, ?_, ?_, ?_, ?_, ?_, ?_⟩
  · have e : (pre ++ [(⟨k, t, a, n⟩ : Item)]).map tkOf = pre.map tkOf ++ [⟨k, t, a⟩] := by simp [tkOf]
    rw [e]
    have e2 : (pre ++ [(⟨k, t, a, n⟩ : Item)]).length = (pre.map tkOf ++ [(⟨k, t, a⟩ : Tk)]).length := by simp
    rw [e2]; exact hown
  · have h1 := below_lt hB2 hc
    have hlt := lt_of_heap h1
    exact (hgr.block _ hlt (fun e => by have := hrow _ e.symm; omega)).trans h1
  · exact (hb0.trans (hB2.mono (by omega))).grown hgr (by have := hB2.size; omega) (fun k e => by have := hrow k e; omega)
  · have := hgr.size; have := hB2.size; omega
  · intro x hx
    rcases List.mem_append.1 hx with hx | hx
    · exact hg x hx
    · simp at hx; subst hx; exact hn
  · rw [hi, List.append_assoc, List.singleton_append]
    congr 2
    refine itemsGo_fuel _ _ _ _ ?_ (Nat.le_refl _)
    show (s.data.toList.drop (a + n)).length ≤ (s.data.toList.drop (a + 1)).length
    rw [List.length_drop, List.length_drop]; omega
  · rw [List.length_append]; show pre.length + 1 ≤ a + n; omega
theorem one_any (s : ByteArray) (p : Nat) (w : World) (hs : s.size ≤ 1000000) (hp : p < s.size) (hb : blanksL.contains (s[p]'hp) = false) (h59 : s[p]'hp ≠ 59) :
    Calls Tryd.prog 28 #[.string s, .int .i64 (p : Int)] w fun e w' => ∃ (k n : Nat) (t : List UInt8), e = .returned (.tuple #[.agg #[.int .i64 (k : Int), .string (bs t), .int .i64 (p : Int)], .int .i64 (n : Int)]) ∧ p + n ≤ s.size ∧ Hid ((oneL (s.data.toList.drop p)).2.2 = n) ∧ Hid (n ≠ 0 → oneL (s.data.toList.drop p) = (k, t, n)) ∧ Hid (Below w.heap.size w w') :=
  (One_ref s p w hs hp hb h59).mono fun _ _ ⟨k, n, t, h1, h2, h3, h4⟩ => ⟨k, n, t, h1, by
    have := oneL_le (s.data.toList.drop p) (by rw [drop_at s p hp]; simp)
    rw [h2, List.length_drop, ← Lib.size_eq] at this
    omega, Lib.hid h2, Lib.hid h3, Lib.hid h4⟩
end Go.Proofs.YtndejiminaopeaaDoor
