/- LexKnown: the walk (printed by gen_known.py). -/
import Derived.Test.YtndejiminaopeaaDoorAlone
import Derived.Test.YtndejiminaopeaaDoorQuote
namespace Go.Proofs.YtndejiminaopeaaDoor
open Go.RowKit

theorem known_a : toksL (⟨#[43, 32, 45, 32, 42, 32, 60, 32, 60, 61, 32, 61, 32, 61, 61, 32, 45, 62, 32, 45, 55, 32, 48, 32, 97, 95, 49, 63, 32, 59, 32, 101, 110, 100]⟩ : ByteArray).data.toList = ([⟨5, [43], 0⟩, ⟨5, [45], 2⟩, ⟨5, [42], 4⟩, ⟨5, [60], 6⟩, ⟨5, [60, 61], 8⟩, ⟨5, [61], 11⟩, ⟨5, [61, 61], 13⟩, ⟨5, [45, 62], 16⟩, ⟨2, [45, 55], 19⟩, ⟨2, [48], 22⟩, ⟨4, [97, 95, 49, 63], 24⟩], none) := by decide +kernel
theorem rowAt_nil (w : World) : RowAt w (.slice none 0 0) [] := ⟨none, 0, rfl, Nat.le_refl _, fun i hi => by simp at hi⟩
theorem Quote_is (r : ByteArray) (s : ByteArray) (w : World) (hs : s.size ≤ 1000000) (h : quoteL s.data.toList = r.data.toList) :
    Calls Tryd.prog 22 #[.string s] w fun e w' => e = .returned (.string r) ∧ Below w.heap.size w w' := by
  have := Quote_calls s w hs
  rw [h, bs_data] at this
  exact this

set_option maxRecDepth 100000 in
set_option maxHeartbeats 8000000 in
theorem LexKnown_calls (w : World) (hg : Laid0 w) :
    Calls Tryd.prog 9 #[] w fun e w' => e = .returned (.bool true) ∧ Below w.heap.size w w' := by
  go_enter Tryd.func9, Tryd.ntmps9
  go_wp2_with fail
  refine (Tokens_any _ _ (by decide)).mono ?_
  rintro e w1 ⟨va, ea, rfl, HR, HE, hb1⟩
  rw [known_a] at HR HE
  obtain rfl : ea = .nilIface := HE.out
  have hg1 := Lib.hid (hg.below hb1)
  have HB1 := Lib.hid hb1
  obtain ⟨A, c, rfl, hc, HA⟩ := HR.out
  obtain ⟨a, rfl, a0, a1, a2⟩ := HA 4 (by decide)
  obtain ⟨x6, e6, k6, t6, p6⟩ := HA 6 (by decide)
  obtain rfl := Option.some.inj e6
  obtain ⟨x7, e7, k7, t7, p7⟩ := HA 7 (by decide)
  obtain rfl := Option.some.inj e7
  obtain ⟨x8, e8, k8, t8, p8⟩ := HA 8 (by decide)
  obtain rfl := Option.some.inj e8
  obtain ⟨x9, e9, k9, t9, p9⟩ := HA 9 (by decide)
  obtain rfl := Option.some.inj e9
  obtain ⟨x10, e10, k10, t10, p10⟩ := HA 10 (by decide)
  obtain rfl := Option.some.inj e10
  replace a1 : w1.cell? ⟨a.block, a.off + 12 + 1, none⟩ = some (.string ⟨#[60, 61]⟩) := a1
  replace t6 : w1.cell? ⟨a.block, a.off + 18 + 1, none⟩ = some (.string ⟨#[61, 61]⟩) := t6
  replace t7 : w1.cell? ⟨a.block, a.off + 21 + 1, none⟩ = some (.string ⟨#[45, 62]⟩) := t7
  replace t8 : w1.cell? ⟨a.block, a.off + 24 + 1, none⟩ = some (.string ⟨#[45, 55]⟩) := t8
  replace t9 : w1.cell? ⟨a.block, a.off + 27 + 1, none⟩ = some (.string ⟨#[48]⟩) := t9
  replace t10 : w1.cell? ⟨a.block, a.off + 30 + 1, none⟩ = some (.string ⟨#[97, 95, 49, 63]⟩) := t10
  replace k7 : w1.cell? ⟨a.block, a.off + 21, none⟩ = some (.int .i64 5) := k7
  replace k8 : w1.cell? ⟨a.block, a.off + 24, none⟩ = some (.int .i64 2) := k8
  clear a0 a2 k6 p6 p7 p8 k9 p9 k10 p10 e6 e7 e8 e9 e10 HA HR hb1 hg
  go_wp2_with fail
  refine (fails_is true _ _ _ (by decide) hg1.out (by decide +kernel)).mono ?_
  rintro e w2 ⟨rfl, hb2⟩
  have hg2 := Lib.hid (hg1.out.below hb2)
  have HB2 := Lib.hid (HB1.out.trans (hb2.mono HB1.out.size))
  clear hb2 HB1 hg1
  go_wp2_with fail
  refine (fails_is true _ _ _ (by decide) hg2.out (by decide +kernel)).mono ?_
  rintro e w3 ⟨rfl, hb3⟩
  have hg3 := Lib.hid (hg2.out.below hb3)
  have HB3 := Lib.hid (HB2.out.trans (hb3.mono HB2.out.size))
  clear hb3 HB2 hg2
  go_wp2_with fail
  refine (fails_is true _ _ _ (by decide) hg3.out (by decide +kernel)).mono ?_
  rintro e w4 ⟨rfl, hb4⟩
  have hg4 := Lib.hid (hg3.out.below hb4)
  have HB4 := Lib.hid (HB3.out.trans (hb4.mono HB3.out.size))
  clear hb4 HB3 hg3
  go_wp2_with fail
  refine (fails_is true _ _ _ (by decide) hg4.out (by decide +kernel)).mono ?_
  rintro e w5 ⟨rfl, hb5⟩
  have hg5 := Lib.hid (hg4.out.below hb5)
  have HB5 := Lib.hid (HB4.out.trans (hb5.mono HB4.out.size))
  clear hb5 HB4 hg4
  go_wp2_with fail
  refine (fails_is true _ _ _ (by decide) hg5.out (by decide +kernel)).mono ?_
  rintro e w6 ⟨rfl, hb6⟩
  have hg6 := Lib.hid (hg5.out.below hb6)
  have HB6 := Lib.hid (HB5.out.trans (hb6.mono HB5.out.size))
  clear hb6 HB5 hg5
  go_wp2_with fail
  refine (fails_is true _ _ _ (by decide) hg6.out (by decide +kernel)).mono ?_
  rintro e w7 ⟨rfl, hb7⟩
  have hg7 := Lib.hid (hg6.out.below hb7)
  have HB7 := Lib.hid (HB6.out.trans (hb7.mono HB6.out.size))
  clear hb7 HB6 hg6
  go_wp2_with fail
  refine (fails_is true _ _ _ (by decide) hg7.out (by decide +kernel)).mono ?_
  rintro e w8 ⟨rfl, hb8⟩
  have hg8 := Lib.hid (hg7.out.below hb8)
  have HB8 := Lib.hid (HB7.out.trans (hb8.mono HB7.out.size))
  clear hb8 HB7 hg7
  go_wp2_with fail
  refine (fails_is true _ _ _ (by decide) hg8.out (by decide +kernel)).mono ?_
  rintro e w9 ⟨rfl, hb9⟩
  have hg9 := Lib.hid (hg8.out.below hb9)
  have HB9 := Lib.hid (HB8.out.trans (hb9.mono HB8.out.size))
  clear hb9 HB8 hg8
  go_wp2_with fail
  refine (fails_is true _ _ _ (by decide) hg9.out (by decide +kernel)).mono ?_
  rintro e w10 ⟨rfl, hb10⟩
  have hg10 := Lib.hid (hg9.out.below hb10)
  have HB10 := Lib.hid (HB9.out.trans (hb10.mono HB9.out.size))
  clear hb10 HB9 hg9
  go_wp2_with fail
  refine (fails_is true _ _ _ (by decide) hg10.out (by decide +kernel)).mono ?_
  rintro e w11 ⟨rfl, hb11⟩
  have hg11 := Lib.hid (hg10.out.below hb11)
  have HB11 := Lib.hid (HB10.out.trans (hb11.mono HB10.out.size))
  clear hb11 HB10 hg10
  go_wp2_with fail
  refine (fails_is true _ _ _ (by decide) hg11.out (by decide +kernel)).mono ?_
  rintro e w12 ⟨rfl, hb12⟩
  have hg12 := Lib.hid (hg11.out.below hb12)
  have HB12 := Lib.hid (HB11.out.trans (hb12.mono HB11.out.size))
  clear hb12 HB11 hg11
  go_wp2_with fail
  refine (fails_is true _ _ _ (by decide) hg12.out (by decide +kernel)).mono ?_
  rintro e w13 ⟨rfl, hb13⟩
  have hg13 := Lib.hid (hg12.out.below hb13)
  have HB13 := Lib.hid (HB12.out.trans (hb13.mono HB12.out.size))
  clear hb13 HB12 hg12
  go_wp2_with fail
  refine (fails_is true _ _ _ (by decide) hg13.out (by decide +kernel)).mono ?_
  rintro e w14 ⟨rfl, hb14⟩
  have hg14 := Lib.hid (hg13.out.below hb14)
  have HB14 := Lib.hid (HB13.out.trans (hb14.mono HB13.out.size))
  clear hb14 HB13 hg13
  go_wp2_with fail
  refine (fails_is true _ _ _ (by decide) hg14.out (by decide +kernel)).mono ?_
  rintro e w15 ⟨rfl, hb15⟩
  have hg15 := Lib.hid (hg14.out.below hb15)
  have HB15 := Lib.hid (HB14.out.trans (hb15.mono HB14.out.size))
  clear hb15 HB14 hg14
  go_wp2_with fail
  refine (fails_is true _ _ _ (by decide) hg15.out (by decide +kernel)).mono ?_
  rintro e w16 ⟨rfl, hb16⟩
  have hg16 := Lib.hid (hg15.out.below hb16)
  have HB16 := Lib.hid (HB15.out.trans (hb16.mono HB15.out.size))
  clear hb16 HB15 hg15
  go_wp2_with fail
  refine (reads_is true _ _ [] _ (by decide) (rowAt_nil _) (by decide +kernel)).mono ?_
  rintro e w17 ⟨rfl, hb17⟩
  have hg17 := Lib.hid (hg16.out.below hb17)
  have HB17 := Lib.hid (HB16.out.trans (hb17.mono HB16.out.size))
  clear hb17 HB16 hg16
  go_wp2_with fail
  refine (reads_is true _ _ [] _ (by decide) (rowAt_nil _) (by decide +kernel)).mono ?_
  rintro e w18 ⟨rfl, hb18⟩
  have hg18 := Lib.hid (hg17.out.below hb18)
  have HB18 := Lib.hid (HB17.out.trans (hb18.mono HB17.out.size))
  clear hb18 HB17 hg17
  go_wp2_with fail
  refine (reads_is true _ _ [⟨0, [], 0⟩, ⟨1, [], 1⟩] _ (by decide) (rowAt_lit _ rfl rfl) (by decide +kernel)).mono ?_
  rintro e w19 ⟨rfl, hb19⟩
  have hg19 := Lib.hid (hg18.out.below (below_new hb19))
  have HB19 := Lib.hid (HB18.out.trans ((below_new hb19).mono HB18.out.size))
  clear hb19 HB18 hg18
  go_wp2_with fail
  refine (reads_is true _ _ [⟨4, [97], 0⟩, ⟨4, [99], 4⟩] _ (by decide) (rowAt_lit _ rfl rfl) (by decide +kernel)).mono ?_
  rintro e w20 ⟨rfl, hb20⟩
  have hg20 := Lib.hid (hg19.out.below (below_new hb20))
  have HB20 := Lib.hid (HB19.out.trans ((below_new hb20).mono HB19.out.size))
  clear hb20 HB19 hg19
  go_wp2_with fail
  refine (reads_is true _ _ [⟨4, [97], 0⟩, ⟨0, [], 1⟩, ⟨2, [49], 2⟩] _ (by decide) (rowAt_lit _ rfl rfl) (by decide +kernel)).mono ?_
  rintro e w21 ⟨rfl, hb21⟩
  have hg21 := Lib.hid (hg20.out.below (below_new hb21))
  have HB21 := Lib.hid (HB20.out.trans ((below_new hb21).mono HB20.out.size))
  clear hb21 HB20 hg20
  go_wp2_with fail
  refine (works_calls _ hg21.out).mono ?_
  rintro e w22 ⟨rfl, hb22⟩
  have hg22 := Lib.hid (hg21.out.below hb22)
  have HB22 := Lib.hid (HB21.out.trans (hb22.mono HB21.out.size))
  clear hb22 HB21 hg21
  go_wp2_with fail
  refine (Quote_is ⟨#[34, 34]⟩ _ _ (by decide) (by decide +kernel)).mono ?_
  rintro e w23 ⟨rfl, hb23⟩
  have hg23 := Lib.hid (hg22.out.below hb23)
  have HB23 := Lib.hid (HB22.out.trans (hb23.mono HB22.out.size))
  clear hb23 HB22 hg22
  go_wp2_with fail
  refine (Quote_is ⟨#[34, 92, 120, 55, 102, 126, 32, 92, 110, 34]⟩ _ _ (by decide) (by decide +kernel)).mono ?_
  rintro e w24 ⟨rfl, hb24⟩
  have hg24 := Lib.hid (hg23.out.below hb24)
  have HB24 := Lib.hid (HB23.out.trans (hb24.mono HB23.out.size))
  clear hb24 HB23 hg23
  go_wp2_with fail
  refine (Name_is false _ _ (by decide) (by decide +kernel)).mono ?_
  rintro e w25 ⟨rfl, hb25⟩
  have hg25 := Lib.hid (hg24.out.below hb25)
  have HB25 := Lib.hid (HB24.out.trans (hb25.mono HB24.out.size))
  clear hb25 HB24 hg24
  go_wp2_with fail
  refine (Number_is false _ _ (by decide) (by decide +kernel)).mono ?_
  rintro e w26 ⟨rfl, hb26⟩
  have hg26 := Lib.hid (hg25.out.below hb26)
  have HB26 := Lib.hid (HB25.out.trans (hb26.mono HB25.out.size))
  clear hb26 HB25 hg25
  go_wp2_with fail
  refine (Number_is false _ _ (by decide) (by decide +kernel)).mono ?_
  rintro e w27 ⟨rfl, hb27⟩
  have hg27 := Lib.hid (hg26.out.below hb27)
  have HB27 := Lib.hid (HB26.out.trans (hb27.mono HB26.out.size))
  clear hb27 HB26 hg26
  go_wp2_with fail
  refine (Number_is false _ _ (by decide) (by decide +kernel)).mono ?_
  rintro e w28 ⟨rfl, hb28⟩
  have hg28 := Lib.hid (hg27.out.below hb28)
  have HB28 := Lib.hid (HB27.out.trans (hb28.mono HB27.out.size))
  clear hb28 HB27 hg27
  go_wp2_with fail
  refine (Number_is true _ _ (by decide) (by decide +kernel)).mono ?_
  rintro e w29 ⟨rfl, hb29⟩
  have hg29 := Lib.hid (hg28.out.below hb29)
  have HB29 := Lib.hid (HB28.out.trans (hb29.mono HB28.out.size))
  clear hb29 HB28 hg28
  go_wp2_with fail
  refine (Name_is true _ _ (by decide) (by decide +kernel)).mono ?_
  rintro e w30 ⟨rfl, hb30⟩
  have hg30 := Lib.hid (hg29.out.below hb30)
  have HB30 := Lib.hid (HB29.out.trans (hb30.mono HB29.out.size))
  clear hb30 HB29 hg29
  go_wp2_with fail
  refine (Name_is false _ _ (by decide) (by decide +kernel)).mono ?_
  rintro e w31 ⟨rfl, hb31⟩
  have hg31 := Lib.hid (hg30.out.below hb31)
  have HB31 := Lib.hid (HB30.out.trans (hb31.mono HB30.out.size))
  clear hb31 HB30 hg30
  go_wp2_with fail
  refine (Name_is false _ _ (by decide) (by decide +kernel)).mono ?_
  rintro e w32 ⟨rfl, hb32⟩
  have hg32 := Lib.hid (hg31.out.below hb32)
  have HB32 := Lib.hid (HB31.out.trans (hb32.mono HB31.out.size))
  clear hb32 HB31 hg31
  go_wp2_with fail
  go_ret
  exact ⟨rfl, HB32.out⟩
end Go.Proofs.YtndejiminaopeaaDoor
