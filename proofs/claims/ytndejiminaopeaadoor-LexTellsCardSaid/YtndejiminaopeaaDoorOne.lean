/- lex.kinds and lex.one by their contracts. -/
import Derived.Test.YtndejiminaopeaaDoorKinds
import Derived.Deep.DeepCutAuto
import Derived.Deep.CutBlock
namespace Go.Proofs.YtndejiminaopeaaDoor
open Go.RowKit

def ptr (b : Nat) : Value := .pointer (some ⟨b, 0, none⟩)
/-- What lex.kinds lays: eleven blocks from B on. -/
def KindsAt (w : World) (B : Nat) : Prop :=
  w.heap[B]? = some (.cells #[.int .i64 0] 3 (0, 0)) ∧ w.heap[B + 1]? = some (.cells #[.string ⟨#[40]⟩] 9 (0, 0)) ∧
  w.heap[B + 2]? = some (.cells #[.int .i64 1] 3 (0, 0)) ∧ w.heap[B + 3]? = some (.cells #[.string ⟨#[41]⟩] 9 (0, 0)) ∧
  w.heap[B + 4]? = some (.cells #[.int .i64 2] 3 (0, 0)) ∧ w.heap[B + 5]? = some (.cells #[.func (.func 70) #[] #[]] 64 (0, 0)) ∧
  w.heap[B + 6]? = some (.cells #[.int .i64 4] 3 (0, 0)) ∧ w.heap[B + 7]? = some (.cells #[.func (.func 30) #[] #[]] 64 (0, 0)) ∧
  w.heap[B + 8]? = some (.cells #[.int .i64 5] 3 (0, 0)) ∧ w.heap[B + 9]? = some (.cells #[.func (.func 72) #[] #[]] 64 (0, 0)) ∧
  w.heap[B + 10]? = some (.cells #[.func (.func 67) #[] #[ptr B, ptr (B + 1)], .func (.func 67) #[] #[ptr (B + 2), ptr (B + 3)], .func (.func 68) #[] #[],
    .func (.func 65) #[] #[ptr (B + 5), ptr (B + 4)], .func (.func 65) #[] #[ptr (B + 7), ptr (B + 6)], .func (.func 65) #[] #[ptr (B + 9), ptr (B + 8)]] 101 (0, 0))
theorem KindsAt.below {w w' : World} {B : Nat} (h : KindsAt w B) (hb : Below w.heap.size w w') : KindsAt w' B := by
  obtain ⟨h0, h1, h2, h3, h4, h5, h6, h7, h8, h9, h10⟩ := h
  exact ⟨below_lt hb h0, below_lt hb h1, below_lt hb h2, below_lt hb h3, below_lt hb h4, below_lt hb h5, below_lt hb h6, below_lt hb h7, below_lt hb h8, below_lt hb h9, below_lt hb h10⟩
theorem KindsAt.set {w : World} {B : Nat} (h : KindsAt w B) {b : Nat} (hb : b < B) (o : Nat) (v : Value) : KindsAt (w.setCell ⟨b, o, none⟩ v) B := by
  have hk : ∀ k, (w.setCell ⟨b, o, none⟩ v).heap[B + k]? = w.heap[B + k]? := fun k => heap_set_ne (by omega) o v
  obtain ⟨h0, h1, h2, h3, h4, h5, h6, h7, h8, h9, h10⟩ := h
  exact ⟨(hk 0).trans h0, (hk 1).trans h1, (hk 2).trans h2, (hk 3).trans h3, (hk 4).trans h4, (hk 5).trans h5, (hk 6).trans h6, (hk 7).trans h7, (hk 8).trans h8, (hk 9).trans h9, (hk 10).trans h10⟩

set_option maxHeartbeats 1000000 in
theorem kinds_calls (w : World) :
    Calls Tryd.prog 55 #[] w fun e w' => e = .returned (.slice (some ⟨w.heap.size + 10, 0, none⟩) 6 6) ∧ KindsAt w' w.heap.size ∧ Below w.heap.size w w' := by
  go_enter Tryd.func55, Tryd.ntmps55
  go_wp2
  go_ret
  refine ⟨rfl, ?_, ?_⟩
  · unfold KindsAt ptr
    refine ⟨?_, ?_, ?_, ?_, ?_, ?_, ?_, ?_, ?_, ?_, ?_⟩
    · rw [heap_old _ _ _ (by simp [Nat.add_assoc]), heap_old _ _ _ (by simp [Nat.add_assoc]), heap_old _ _ _ (by simp [Nat.add_assoc]), heap_old _ _ _ (by simp [Nat.add_assoc]), heap_old _ _ _ (by simp [Nat.add_assoc]), heap_old _ _ _ (by simp [Nat.add_assoc]), heap_old _ _ _ (by simp [Nat.add_assoc]), heap_old _ _ _ (by simp [Nat.add_assoc]), heap_old _ _ _ (by simp [Nat.add_assoc]), heap_old _ _ _ (by simp [Nat.add_assoc])]; exact heap_new _ _ _ (by simp [Nat.add_assoc])
    · rw [heap_old _ _ _ (by simp [Nat.add_assoc]), heap_old _ _ _ (by simp [Nat.add_assoc]), heap_old _ _ _ (by simp [Nat.add_assoc]), heap_old _ _ _ (by simp [Nat.add_assoc]), heap_old _ _ _ (by simp [Nat.add_assoc]), heap_old _ _ _ (by simp [Nat.add_assoc]), heap_old _ _ _ (by simp [Nat.add_assoc]), heap_old _ _ _ (by simp [Nat.add_assoc]), heap_old _ _ _ (by simp [Nat.add_assoc])]; exact heap_new _ _ _ (by simp [Nat.add_assoc])
    · rw [heap_old _ _ _ (by simp [Nat.add_assoc]), heap_old _ _ _ (by simp [Nat.add_assoc]), heap_old _ _ _ (by simp [Nat.add_assoc]), heap_old _ _ _ (by simp [Nat.add_assoc]), heap_old _ _ _ (by simp [Nat.add_assoc]), heap_old _ _ _ (by simp [Nat.add_assoc]), heap_old _ _ _ (by simp [Nat.add_assoc]), heap_old _ _ _ (by simp [Nat.add_assoc])]; exact heap_new _ _ _ (by simp [Nat.add_assoc])
    · rw [heap_old _ _ _ (by simp [Nat.add_assoc]), heap_old _ _ _ (by simp [Nat.add_assoc]), heap_old _ _ _ (by simp [Nat.add_assoc]), heap_old _ _ _ (by simp [Nat.add_assoc]), heap_old _ _ _ (by simp [Nat.add_assoc]), heap_old _ _ _ (by simp [Nat.add_assoc]), heap_old _ _ _ (by simp [Nat.add_assoc])]; exact heap_new _ _ _ (by simp [Nat.add_assoc])
    · rw [heap_old _ _ _ (by simp [Nat.add_assoc]), heap_old _ _ _ (by simp [Nat.add_assoc]), heap_old _ _ _ (by simp [Nat.add_assoc]), heap_old _ _ _ (by simp [Nat.add_assoc]), heap_old _ _ _ (by simp [Nat.add_assoc]), heap_old _ _ _ (by simp [Nat.add_assoc])]; exact heap_new _ _ _ (by simp [Nat.add_assoc])
    · rw [heap_old _ _ _ (by simp [Nat.add_assoc]), heap_old _ _ _ (by simp [Nat.add_assoc]), heap_old _ _ _ (by simp [Nat.add_assoc]), heap_old _ _ _ (by simp [Nat.add_assoc]), heap_old _ _ _ (by simp [Nat.add_assoc])]; exact heap_new _ _ _ (by simp [Nat.add_assoc])
    · rw [heap_old _ _ _ (by simp [Nat.add_assoc]), heap_old _ _ _ (by simp [Nat.add_assoc]), heap_old _ _ _ (by simp [Nat.add_assoc]), heap_old _ _ _ (by simp [Nat.add_assoc])]; exact heap_new _ _ _ (by simp [Nat.add_assoc])
    · rw [heap_old _ _ _ (by simp [Nat.add_assoc]), heap_old _ _ _ (by simp [Nat.add_assoc]), heap_old _ _ _ (by simp [Nat.add_assoc])]; exact heap_new _ _ _ (by simp [Nat.add_assoc])
    · rw [heap_old _ _ _ (by simp [Nat.add_assoc]), heap_old _ _ _ (by simp [Nat.add_assoc])]; exact heap_new _ _ _ (by simp [Nat.add_assoc])
    · rw [heap_old _ _ _ (by simp [Nat.add_assoc])]; exact heap_new _ _ _ (by simp [Nat.add_assoc])
    · exact heap_new _ _ _ (by simp [Nat.add_assoc])
  · repeat (first | exact Below.refl _ _ | refine Below.alloc ?_ (by simp [Nat.add_assoc]) _)
end Go.Proofs.YtndejiminaopeaaDoor
