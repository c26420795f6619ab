/- works by its contract. -/
import Derived.Test.YtndejiminaopeaaDoorReads
namespace Go.Proofs.YtndejiminaopeaaDoor
open Go.RowKit

theorem w_a : toksL (⟨#[40, 105, 110, 116, 63, 32, 118, 41, 40, 45, 32, 49, 32, 50, 41]⟩ : ByteArray).data.toList = ([⟨0, [], 0⟩, ⟨4, [105, 110, 116, 63], 1⟩, ⟨4, [118], 6⟩, ⟨1, [], 7⟩, ⟨0, [], 8⟩, ⟨5, [45], 9⟩, ⟨2, [49], 11⟩, ⟨2, [50], 13⟩, ⟨1, [], 14⟩], none) := by decide +kernel

theorem w_b : decide (toksL (⟨#[40, 43, 32, 120, 32, 45, 49, 50, 41, 32, 59, 32, 110, 111]⟩ : ByteArray).data.toList = ([⟨0, [], 0⟩, ⟨5, [43], 1⟩, ⟨4, [120], 3⟩, ⟨2, [45, 49, 50], 5⟩, ⟨1, [], 8⟩], none)) = true := by decide +kernel
theorem w_c : decide (toksL (⟨#[34, 97, 92, 120, 48, 97, 92, 34, 34]⟩ : ByteArray).data.toList = ([⟨3, [97, 10, 34], 0⟩], none)) = true := by decide +kernel
set_option maxRecDepth 100000 in
set_option maxHeartbeats 4000000 in
theorem works_calls (w : World) (hg : Laid0 w) : Calls Tryd.prog 15 #[] w fun e w' => e = .returned (.bool true) ∧ Below w.heap.size w w' := by
  go_enter Tryd.func15, Tryd.ntmps15
  go_wp2_with fail
  refine (Tokens_any _ _ (by decide)).mono ?_
  rintro e w1 ⟨va, ea, rfl, HR, HE, hb1⟩
  rw [w_a] at HR HE
  obtain rfl : ea = .nilIface := HE.out
  have hg1 := Lib.hid (hg.below hb1)
  go_wp2_with fail
  refine (reads_is true _ _ [⟨0, [], 0⟩, ⟨5, [43], 1⟩, ⟨4, [120], 3⟩, ⟨2, [45, 49, 50], 5⟩, ⟨1, [], 8⟩] _ (by decide) (rowAt_lit _ rfl rfl) w_b).mono ?_
  rintro e w2 ⟨rfl, hb2⟩
  have hg2 := Lib.hid (hg1.out.below (below_new hb2))
  have HR2 := Lib.hid (HR.out.below (below_new hb2))
  go_wp2_with fail
  refine (reads_is true _ _ [⟨3, [97, 10, 34], 0⟩] _ (by decide) (rowAt_lit _ rfl rfl) w_c).mono ?_
  rintro e w3 ⟨rfl, hb3⟩
  have hg3 := Lib.hid (hg2.out.below (below_new hb3))
  have HR3 := Lib.hid (HR2.out.below (below_new hb3))
  have HB3 := Lib.hid (((hb1.trans ((below_new hb2).mono hb1.size))).trans ((below_new hb3).mono (Nat.le_trans hb1.size (below_new hb2).size)))
  clear hb1 hb2 hb3 HR HR2 hg1 hg2
  obtain ⟨A, c, rfl, hc, HA⟩ := HR3.out
  obtain ⟨a, rfl, a0, a1, a2⟩ := HA 1 (by decide)
  obtain ⟨a', e', b0, b1, b2⟩ := HA 5 (by decide)
  obtain rfl := Option.some.inj e'
  obtain ⟨a'', e'', d0, d1, d2⟩ := HA 6 (by decide)
  obtain rfl := Option.some.inj e''
  replace a1 : w3.cell? ⟨a.block, a.off + 3 + 1, none⟩ = some (.string ⟨#[105, 110, 116, 63]⟩) := a1
  replace b0 : w3.cell? ⟨a.block, a.off + 15, none⟩ = some (.int .i64 5) := b0
  replace b1 : w3.cell? ⟨a.block, a.off + 15 + 1, none⟩ = some (.string ⟨#[45]⟩) := b1
  replace d1 : w3.cell? ⟨a.block, a.off + 18 + 1, none⟩ = some (.string ⟨#[49]⟩) := d1
  clear a0 a2 b2 d0 d2 e' e'' HA HR3 hg
  go_wp2_with fail
  refine (fails_is true _ _ _ (by decide) hg3.out (by decide +kernel)).mono ?_
  rintro e w4 ⟨rfl, hb4⟩
  have hg4 := Lib.hid (hg3.out.below hb4)
  have HB4 := Lib.hid (HB3.out.trans (hb4.mono HB3.out.size))
  clear hb4 HB3 hg3
  go_wp2_with fail
  refine (fails_is true _ _ _ (by decide) hg4.out (by decide +kernel)).mono ?_
  rintro e w5 ⟨rfl, hb5⟩
  have hg5 := Lib.hid (hg4.out.below hb5)
  have HB5 := Lib.hid (HB4.out.trans (hb5.mono HB4.out.size))
  clear hb5 HB4 hg4
  go_wp2_with fail
  refine (fails_is true _ _ _ (by decide) hg5.out (by decide +kernel)).mono ?_
  rintro e w6 ⟨rfl, hb6⟩
  have hg6 := Lib.hid (hg5.out.below hb6)
  have HB6 := Lib.hid (HB5.out.trans (hb6.mono HB5.out.size))
  clear hb6 HB5 hg5
  go_wp2_with fail
  refine (fails_is true _ _ _ (by decide) hg6.out (by decide +kernel)).mono ?_
  rintro e w7 ⟨rfl, hb7⟩
  have hg7 := Lib.hid (hg6.out.below hb7)
  have HB7 := Lib.hid (HB6.out.trans (hb7.mono HB6.out.size))
  clear hb7 HB6 hg6
  go_wp2_with fail
  go_ret
  exact ⟨rfl, HB7.out⟩
end Go.Proofs.YtndejiminaopeaaDoor
