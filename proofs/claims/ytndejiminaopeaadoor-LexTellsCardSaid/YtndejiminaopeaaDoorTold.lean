/- api.Told, told by their contracts. -/
import Derived.Test.YtndejiminaopeaaDoorAs
import Derived.Test.YtndejiminaopeaaDoorTokens
import Derived.Test.YtndejiminaopeaaDoorKinds
namespace Go.Proofs.YtndejiminaopeaaDoor
open Go.RowKit

/-- What the laid variable gives. -/
def Laid0 (w : World) : Prop := w.cell? ⟨0, 0, none⟩ = some (.iface 105 (.agg #[.pointer (some ⟨2, 28, none⟩)]))
theorem Laid0.pos {w : World} (h : Laid0 w) : 0 < w.heap.size := by
  rcases Nat.eq_zero_or_pos w.heap.size with h0 | h1
  · simp [Laid0, World.cell?, h0] at h
  · exact h1
theorem Laid0.below {w w' : World} (h : Laid0 w) (hb : Below w.heap.size w w') : Laid0 w' := by
  have := hb.block 0 h.pos
  unfold Laid0 at *
  rw [← h]
  simp only [World.cell?, this]
theorem Laid0.alloc {w : World} (h : Laid0 w) (o : Obj) : Laid0 (w.alloc o) := h.below ((Below.refl _ w).alloc (Nat.le_refl _) o)

theorem resT {tmps : Array Value} {W : World} {n0 : Nat} {a b : Int} (hv : W.heap[n0]? = some (.cells #[.int .i64 a, .int .i64 b] 33 (0, 0)))
    (h2 : tmps.getD 2 undef = .pointer (some ⟨n0, 0, none⟩)) : (results Tryd.f17 tmps).run Tryd.prog W = .ok (.agg #[.int .i64 a, .int .i64 b]) W := by
  have c := cell_of hv 0
  have c' := cell_of hv 1
  have r : (Tryd.f17).results = #[.cell 2 33] := rfl
  have g2 : tmps[2]?.getD undef = .pointer (some ⟨n0, 0, none⟩) := by rw [← h2]; simp
  have z : (sizeOf 33).run Tryd.prog W = .ok 2 W := by kernel_rfl
  have iag : (isAgg 33).run Tryd.prog W = .ok true W := by kernel_rfl
  simp [results, r, g2, go_sem, c, c', z, iag]
theorem Told_nil (w : World) : Calls Tryd.prog 17 #[.nilIface] w fun e w' => e = .returned (.agg #[.int .i64 0, .int .i64 0]) ∧ Below w.heap.size w w' := by
  go_enter Tryd.func17, Tryd.ntmps17
  go_wp2_with (go_at_call 29; refine (as_nil _ _).mono ?_; rintro e w1 ⟨rfl, rfl⟩)
  have h2 : (((w.alloc (.cells #[.int .i64 0, .int .i64 0] 33)).alloc (.cells #[.pointer none] 55)).alloc (.cells #[.int .i64 0] 31)).heap[w.heap.size]? = some (.cells #[.int .i64 0, .int .i64 0] 33 (0, 0)) := by
    rw [heap_old _ _ _ (by simp; omega), heap_old _ _ _ (by simp), heap_new _ _ _ rfl]
  exact bodyPost_ret (resT h2 rfl) rfl ⟨rfl, (((Below.refl _ w).alloc (Nat.le_refl _) _).alloc (by simp) _).alloc (by simp; omega) _⟩
theorem Told_fault (v : Value) (lo : Nat) (code pos : Int) (w : World) (hg : Laid0 w) (hf : FaultAt w v lo code pos) : Calls Tryd.prog 17 #[v] w fun e w' => e = .returned (.agg #[.int .i64 code, .int .i64 pos]) ∧ Below w.heap.size w w' := by
  obtain ⟨eb, rfl, _, heb⟩ := hf
  go_enter Tryd.func17, Tryd.ntmps17
  go_wp2_with fail
  refine (as_trouble ⟨eb, 0, none⟩ (w.heap.size + 1) (.pointer none) _ ?_ ?_).mono ?_
  · exact (hg.alloc _).alloc _
  · exact heap_new _ _ _ (by simp)
  rintro e w1 ⟨rfl, hc, hb, ho⟩
  have heb1 : w1.heap[eb]? = some (.cells #[.int .i64 code, .int .i64 pos] 33 (0, 0)) := (hb.block eb (by have := lt_of_heap heb; omega)).trans ((heap_old _ _ _ (by have := lt_of_heap heb; simp; omega)).trans ((heap_old _ _ _ (lt_of_heap heb)).trans heb))
  have h2 : w1.heap[w.heap.size]? = some (.cells #[.int .i64 0, .int .i64 0] 33 (0, 0)) := (hb.block _ (by omega)).trans ((heap_old _ _ _ (by simp)).trans (heap_new _ _ _ rfl))
  have cc : w1.cell? ⟨w.heap.size + 1, 0, none⟩ = some (.pointer (some ⟨eb, 0, none⟩)) := (cell_of hc 0).trans rfl
  have c0 : w1.cell? ⟨eb, 0, none⟩ = some (.int .i64 code) := (cell_of heb1 0).trans rfl
  have c1 : w1.cell? ⟨eb, 1, none⟩ = some (.int .i64 pos) := (cell_of heb1 1).trans rfl
  have r0 : w1.cell? ⟨w.heap.size, 0, none⟩ = some (.int .i64 0) := (cell_of h2 0).trans rfl
  have r1 : w1.cell? ⟨w.heap.size, 1, none⟩ = some (.int .i64 0) := (cell_of h2 1).trans rfl
  have f0 := frozen_of h2 0
  have f1 := frozen_of h2 1
  go_wp2_with fail
  have h3 : ((w1.setCell ⟨w.heap.size, 0, none⟩ (.int .i64 code)).setCell ⟨w.heap.size, 1, none⟩ (.int .i64 pos)).heap[w.heap.size]? = some (.cells #[.int .i64 code, .int .i64 pos] 33 (0, 0)) := (heap_set ((heap_set h2 _ _).trans rfl) _ _).trans rfl
  refine bodyPost_ret (resT h3 rfl) rfl ⟨rfl, ?_⟩
  refine Below.setCell (p := ⟨w.heap.size, 1, none⟩) (Below.setCell (p := ⟨w.heap.size, 0, none⟩) ?_ (Nat.le_refl _) _) (Nat.le_refl _) _
  exact (((Below.refl _ w).alloc (Nat.le_refl _) _).alloc (by simp) _).trans (hb.mono (Nat.le_succ _))
theorem FaultAt.below {w w' : World} {v : Value} {lo : Nat} {code pos : Int} (h : FaultAt w v lo code pos) (hb : Below w.heap.size w w') : FaultAt w' v lo code pos := by
  obtain ⟨eb, h1, h2, h3⟩ := h
  exact ⟨eb, h1, h2, below_lt hb h3⟩
/-- An error as lex.Tokens hands it back. -/
def ErrIs (w : World) (v : Value) (o : Option Nat) : Prop := match o with | none => v = .nilIface | some p => ∃ lo, FaultAt w v lo 4 (p : Int)
theorem ErrIs.below {w w' : World} {v : Value} {o : Option Nat} (h : ErrIs w v o) (hb : Below w.heap.size w w') : ErrIs w' v o := by
  cases o with
  | none => exact h
  | some p => obtain ⟨lo, h⟩ := h; exact ⟨lo, h.below hb⟩
def faultV (o : Option Nat) : Value := match o with | none => .agg #[.int .i64 0, .int .i64 0] | some p => .agg #[.int .i64 4, .int .i64 (p : Int)]
theorem Told_any (v : Value) (o : Option Nat) (w : World) (hg : Laid0 w) (h : ErrIs w v o) : Calls Tryd.prog 17 #[v] w fun e w' => e = .returned (faultV o) ∧ Below w.heap.size w w' := by
  cases o with
  | none => cases h; exact Told_nil w
  | some p => obtain ⟨lo, h⟩ := h; exact Told_fault v lo 4 p w hg h

theorem below_drew' {B : Nat} {a w : World} (h : Below B a w) : Below B a w.drew := h.trans ⟨rfl, rfl, rfl, Nat.le_refl _, fun _ _ => rfl⟩
theorem Laid0.drew {w : World} (h : Laid0 w) : Laid0 w.drew := h
/-- told, asked of a place. -/
theorem told_at (v : Value) (o : Option Nat) (k : Int) (w : World) (hg : Laid0 w) (h : ErrIs w v o) :
    Calls Tryd.prog 13 #[v, .agg #[.int .i64 4, .int .i64 k]] w fun e w' => e = .returned (.bool (match o with | none => false | some p => decide ((p : Int) = k))) ∧ Below w.heap.size w w' := by
  go_enter Tryd.func13, Tryd.ntmps13
  cases o with
  | none =>
    cases h
    go_wp2_with fail
    go_quiet (fail)
    go_wp2_with fail
    go_ret
    exact ⟨rfl, below_drewN ((Below.refl _ w).alloc (Nat.le_refl _) _) _⟩
  | some p =>
    obtain ⟨lo, h⟩ := h
    have hv : ∃ a b, v = .iface a b := by obtain ⟨eb, rfl, _⟩ := h; exact ⟨_, _, rfl⟩
    obtain ⟨a, b, rfl⟩ := hv
    go_wp2_with fail
    have HB : Below w.heap.size w (w.alloc (.cells #[.int .i64 4, .int .i64 k] 33)) := (Below.refl _ w).alloc (Nat.le_refl _) _
    have HG := hg.alloc (.cells #[.int .i64 4, .int .i64 k] 33)
    have HF := h.below HB
    have HC := heap_new w (.cells #[.int .i64 4, .int .i64 k] 33) w.heap.size rfl
    obtain ⟨W0, hW0⟩ : ∃ W0, w.alloc (.cells #[.int .i64 4, .int .i64 k] 33) = W0 := ⟨_, rfl⟩
    rw [hW0] at HB HG HF HC ⊢
    have c0 : W0.cell? ⟨w.heap.size, 0, none⟩ = some (.int .i64 4) := (cell_of HC 0).trans rfl
    have c1 : W0.cell? ⟨w.heap.size, 1, none⟩ = some (.int .i64 k) := (cell_of HC 1).trans rfl
    have HL := lt_of_heap HC
    by_cases hpk : (p : Int) = k
    · subst hpk
      go_region_held3 (fun w' => w'.cell? ⟨w.heap.size, 0, none⟩ = some (.int .i64 4) ∧ w'.cell? ⟨w.heap.size, 1, none⟩ = some (.int .i64 (p : Int)) ∧ Below w.heap.size w w') (first | exact ⟨c0, c1, HB⟩ | exact ⟨c0, c1, HB.drew⟩ | (refine ⟨?_, ?_, ?_⟩ <;> assumption))
        (first | (go_at_call 17; refine (Told_fault _ lo 4 p _ HG.drew (HF.below (Below.refl _ _).drew)).mono ?_; rintro e w1 ⟨rfl, hb⟩; have bq : Below w.heap.size w w1 := HB.drew.trans (hb.mono HB.size); have kq := (hb.cell (p := ⟨w.heap.size, 0, none⟩) HL).trans c0; have oq := (hb.cell (p := ⟨w.heap.size, 1, none⟩) HL).trans c1))
      go_wp2_with fail
      go_ret
      exact ⟨ret_bool (by simp), bq⟩
    · have hpk' : ((p : Int) == k) = false := by simpa using hpk
      have hpk'' : ((p : Int) = k) = False := by simpa using hpk
      go_region_held3 (fun w' => w'.cell? ⟨w.heap.size, 0, none⟩ = some (.int .i64 4) ∧ w'.cell? ⟨w.heap.size, 1, none⟩ = some (.int .i64 k) ∧ Below w.heap.size w w') (first | exact ⟨c0, c1, HB⟩ | exact ⟨c0, c1, HB.drew⟩ | (refine ⟨?_, ?_, ?_⟩ <;> assumption))
        (first | (go_at_call 17; refine (Told_fault _ lo 4 p _ HG.drew (HF.below (Below.refl _ _).drew)).mono ?_; rintro e w1 ⟨rfl, hb⟩; have bq : Below w.heap.size w w1 := HB.drew.trans (hb.mono HB.size); have kq := (hb.cell (p := ⟨w.heap.size, 0, none⟩) HL).trans c0; have oq := (hb.cell (p := ⟨w.heap.size, 1, none⟩) HL).trans c1))
      go_wp2_with fail
      go_ret
      exact ⟨ret_bool (by simp [hpk]), bq⟩
end Go.Proofs.YtndejiminaopeaaDoor
