/- few by its contract. -/
import Derived.Test.YtndejiminaopeaaDoorWorks
namespace Go.Proofs.YtndejiminaopeaaDoor
open Go.RowKit

theorem few_calls (s : ByteArray) (k : Nat) (w : World) (hs : s.size ≤ 9223372036854775807) (hk : k ≤ 1000000) :
    Calls Tryd.prog 10 #[.string s, .int .i64 (k : Int)] w fun e w' => ∃ t : ByteArray, e = .returned (.string t) ∧ Hid (t = s.extract 0 (min s.size k)) ∧ t.size ≤ k ∧ Below w.heap.size w w' := by
  go_enter Tryd.func10, Tryd.ntmps10
  have h1 : min (s.size : Int) (k : Int) ≤ s.size := by omega
  have h0 : (0 : Int) ≤ min (s.size : Int) (k : Int) := by omega
  have Hm := Lib.hid (show (min (s.size : Int) (k : Int)).toNat = min s.size k by omega)
  go_wp2_with fail
  go_ret
  refine ⟨_, rfl, Lib.hid (by rw [Hm.out]), ?_, Below.refl _ _⟩
  rw [Hm.out, extract_bs, bs_size, List.length_take]
  omega
end Go.Proofs.YtndejiminaopeaaDoor
