/- Rows of tokens that a call writes into, and appends. -/
import Derived.Test.YtndejiminaopeaaDoorReads
import Derived.Laws.AppendOwnNone
import Derived.OneCell
namespace Go.Proofs.YtndejiminaopeaaDoor
open Go.RowKit

theorem tksV_len (l : List Tk) : (tksV l).length = l.length * 3 := by
  induction l with
  | nil => rfl
  | cons t r ih =>
    show (tkV t ++ tksV r).length = _
    rw [List.length_append, ih]; simp [tkV]; omega
theorem tksV_one (l : List Tk) : ∀ u ∈ tksV l, u.oneCell' = true := by
  induction l with
  | nil => intro u h; cases h
  | cons t r ih =>
    intro u h
    rcases List.mem_append.1 (show u ∈ tkV t ++ tksV r from h) with h | h
    · simp [tkV] at h
      rcases h with rfl | rfl | rfl <;> rfl
    · exact ih u h
theorem tksV_app (a b : List Tk) : tksV (a ++ b) = tksV a ++ tksV b := by simp [tksV]

/-- 'append(l, m...)', of rows of tokens that are the call's own. -/
theorem wpList_append_toks {w : World} {ops : Array Oper} {rest : List Oper} {o : Oper} {a : Act} {Q : Exit → Act → World → Prop} (s x : Operand)
    (ho : o.op = .call { callee := .builtin .append, args := #[s, x], argTypes := #[26, 26] })
    (base base2 : Nat) (l m : List Tk) (v vx : Value) (hs : a.eval s = v) (hown : w.ownsRow base 43 3 v l.length (tksV l)) (hx : a.eval x = vx) (hrow : w.ownsRow base2 43 3 vx m.length (tksV m))
    (hle : l.length + m.length ≤ 1000000) (hbase : base ≤ w.heap.size) (hw : Region.wanted o (yielded ops a.tmps) = true)
    (h : ∀ v' w', w'.ownsRow base 43 3 v' (l ++ m).length (tksV (l ++ m)) → w.grownBy w' v.ownBlock → wpList Tryd.prog ops Q rest (a.put o.dst v') w') : wpList Tryd.prog ops Q (o :: rest) a w := by
  obtain ⟨i0, hi0, hii⟩ := Option.map_eq_some_iff.1 infoT
  obtain ⟨z0, hzz⟩ : ∃ z0 : Value, Value.agg #[.int .i64 0, .string ⟨#[]⟩, .int .i64 0] = z0 := ⟨_, rfl⟩
  rw [hzz] at hii
  have hz3 : z0.cells.size = 3 := by rw [← hzz]; rfl
  have hz0 : i0.zero = some z0 := congrArg (·.1) hii
  have hz1 : i0.size = 3 := congrArg (·.2.1) hii
  have hz2 : i0.bytes = 32 := congrArg (·.2.2) hii
  refine wpList_step fun K hK => ?_
  rw [if_pos hw]
  rcases hrow.2 with ⟨rfl, h0⟩ | ⟨g, cap, cur, rfl, _⟩
  · have : m = [] := List.length_eq_zero_iff.1 h0
    subst this
    have hrun := run_append_owned_none (P := Tryd.prog) (w := w) base 26 o.type 43 i0 3 Tryd.underlying26 hi0 v l.length (tksV l) hown
    unfold Oper.wp
    simp [execOp, ho, resolve, invoke, builtin, hs, hx, hrun, Result.andThen]
    exact hK _ _ (h v w (by simpa using hown) ⟨rfl, rfl, rfl, Nat.le_refl _, fun _ _ _ => rfl⟩)
  · refine wp_append_own w s x _ ho base 43 i0 z0 3 32 Tryd.underlying26 hi0 hz0 hz1 hz2 hz3 (by decide) v l.length (tksV l) hs hown ⟨g, 0, none⟩ m.length cap (tksV m) hx (tksV_len m)
      (hrow.cells rfl) (tksV_one m) (by simp only [maxLen]; omega) (by omega) hbase fun v' w' h1 h2 _ => hK _ _ (h v' w' ?_ h2)
    rw [List.length_append, tksV_app]; exact h1

theorem tksV_set (l1 l2 : List Tk) (t : Tk) (p : Nat) : (tksV (l1 ++ t :: l2)).set (l1.length * 3 + 2) (.int .i64 (p : Int)) = tksV (l1 ++ { t with pos := p } :: l2) := by
  rw [tksV_app, tksV_app, List.set_append, if_neg (by rw [tksV_len]; omega), tksV_len]
  have : l1.length * 3 + 2 - l1.length * 3 = 2 := by omega
  rw [this]
  rfl
end Go.Proofs.YtndejiminaopeaaDoor
