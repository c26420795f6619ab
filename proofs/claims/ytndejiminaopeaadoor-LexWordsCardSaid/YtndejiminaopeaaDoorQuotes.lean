/- LexQuotes: the walk. -/
import Derived.Test.YtndejiminaopeaaDoorFew
import Derived.Test.YtndejiminaopeaaDoorQuote
import Derived.Test.YtndejiminaopeaaDoorAlone
namespace Go.Proofs.YtndejiminaopeaaDoor
open Go.RowKit

theorem Quote_any (s : ByteArray) (w : World) (hs : s.size ≤ 200) :
    Calls Tryd.prog 22 #[.string s] w fun e w' => ∃ q : ByteArray, e = .returned (.string q) ∧ Hid (q.data.toList = quoteL s.data.toList) ∧ q.size ≤ 802 ∧ Below w.heap.size w w' :=
  (Quote_calls s w (by omega)).mono fun _ _ ⟨h1, h2⟩ => ⟨_, h1, Lib.hid (by simp [bs]), by
    rw [bs_size]
    have := bodyL_len s.data.toList
    rw [← Lib.size_eq] at this
    simp [quoteL]; omega, h2⟩

set_option maxRecDepth 100000 in
set_option maxHeartbeats 4000000 in
theorem LexQuotes_calls (s0 t0 : ByteArray) (w : World) (hg : Laid0 w) (hs0 : s0.size ≤ 9223372036854775807) (ht0 : t0.size ≤ 9223372036854775807) :
    Calls Tryd.prog 7 #[.string s0, .string t0] w fun e w' => e = .returned (.bool true) ∧ Below w.heap.size w w' := by
  go_enter Tryd.func7, Tryd.ntmps7
  go_wp2_with fail
  refine (works_calls _ hg).mono ?_
  rintro e w1 ⟨rfl, hb1⟩
  have hg1 := Lib.hid (hg.below hb1)
  have HB1 := Lib.hid hb1
  clear hb1
  go_wp2_with fail
  refine (few_calls _ 200 _ hs0 (by decide)).mono ?_
  rintro e w2 ⟨s, rfl, _, hs, hb2⟩
  have hg2 := Lib.hid (hg1.out.below hb2)
  have HB2 := Lib.hid (HB1.out.trans (hb2.mono HB1.out.size))
  clear hb2 HB1 hg1
  go_wp2_with fail
  refine (few_calls _ 200 _ ht0 (by decide)).mono ?_
  rintro e w3 ⟨t, rfl, _, ht, hb3⟩
  have hg3 := Lib.hid (hg2.out.below hb3)
  have HB3 := Lib.hid (HB2.out.trans (hb3.mono HB2.out.size))
  clear hb3 HB2 hg2
  go_wp2_with fail
  refine (Quote_any s _ hs).mono ?_
  rintro e w4 ⟨q, rfl, Hq, hq, hb4⟩
  have hg4 := Lib.hid (hg3.out.below hb4)
  have HB4 := Lib.hid (HB3.out.trans (hb4.mono HB3.out.size))
  clear hb4 HB3 hg3
  have Hr : ∀ i, ∀ h : i < q.size, (32 : Int) ≤ ((q[i]'h).toNat : Int) ∧ ((q[i]'h).toNat : Int) ≤ 126 := fun i h => by
    have hm : q[i]'h ∈ q.data.toList := by show q.data[i] ∈ _; simp
    rw [Hq.out] at hm
    have := quoteL_range _ _ hm
    have h1 := UInt8.le_iff_toNat_le.1 this.1
    have h2 := UInt8.le_iff_toNat_le.1 this.2
    simp at h1 h2
    omega
  have HrH := Lib.hid Hr
  clear Hr
  go_wp2_with fail
  go_loopw [6] (fun v6 wr => ∃ i : Nat, v6 = .int .i64 (i : Int) ∧ i ≤ q.size ∧ Hid (Laid0 wr) ∧ Hid (Below w.heap.size w wr)) (fun v6 _ => q.size - (intOf v6).toNat)
  case atStart => exact ⟨0, rfl, by omega, hg4, HB4⟩
  case round =>
    obtain ⟨i, rfl, hi, hgr, HBr⟩ := hrel
    by_cases hlt : i < q.size
    · have hlti : (i : Int) < q.size := by omega
      obtain ⟨hlo, hhi⟩ := HrH.out i hlt
      go_wp2_with fail
      exact ⟨⟨i + 1, by go_num, by omega, hgr, HBr⟩, by simp [intOf]; omega⟩
    · have HP := Lib.hid (show decide (toksL ((⟨#[40]⟩ : ByteArray) ++ q ++ ⟨#[41]⟩).data.toList = ([⟨0, [], 0⟩, ⟨3, s.data.toList, 1⟩, ⟨1, [], 1 + q.size⟩], none)) = true by
        refine decide_eq_true ?_
        rw [cat_l _ [41], cat_r [40], Hq.out, Lib.size_eq, Hq.out]
        exact toks_paren s.data.toList)
      have HQ := Lib.hid (show decide (toksL q.data.toList = ([⟨3, s.data.toList, 0⟩], none)) = true by rw [Hq.out, toks_quote]; simp)
      go_wp2_with fail
      refine (reads_is true _ _ [⟨3, s.data.toList, 0⟩] _ (by omega) (rowAt_lit _ (by simp [tksV, tkV, bs_data]) rfl) HQ.out).mono ?_
      rintro e w5 ⟨rfl, hb5⟩
      have HB5 := Lib.hid (HBr.out.trans ((below_new hb5).mono HBr.out.size))
      clear hb5
      go_wp2_with fail
      refine (Quote_any t _ ht).mono ?_
      rintro e w6 ⟨r, rfl, Hr, hr, hb6⟩
      have HB6 := Lib.hid (HB5.out.trans (hb6.mono HB5.out.size))
      clear hb6 HB5
      by_cases hst : s.data.toList = t.data.toList
      · have hst' := hst
        have k1 : (q.toList == r.toList) = true := by simp only [tl_data, Hq.out, Hr.out]; rw [hst]; simp
        have k2 : (s.toList == t.toList) = true := by simp only [tl_data]; rw [hst]; simp
        clear hst
        go_wp2_with fail
        refine (reads_is true _ _ [⟨0, [], 0⟩, ⟨3, s.data.toList, 1⟩, ⟨1, [], 1 + q.size⟩] _ (by rw [Lib.size_eq]; simp [← Lib.size_eq]; omega) (rowAt_lit _ (by simp [tksV, tkV, bs_data, bs]) rfl) HP.out).mono ?_
        rintro e w7 ⟨rfl, hb7⟩
        have HB7 := Lib.hid (HB6.out.trans ((below_new hb7).mono HB6.out.size))
        clear hb7
        go_wp2_with fail
        go_ret
        exact ⟨rfl, HB7.out⟩
      · have hst' := hst
        have k1 : (q.toList == r.toList) = false := by simp only [tl_data, Hq.out, Hr.out]; rw [beq_eq_false_iff_ne]; exact fun h => hst (quote_inj h)
        have k2 : (s.toList == t.toList) = false := by simp only [tl_data]; rw [beq_eq_false_iff_ne]; exact hst
        clear hst
        go_wp2_with fail
        refine (reads_is true _ _ [⟨0, [], 0⟩, ⟨3, s.data.toList, 1⟩, ⟨1, [], 1 + q.size⟩] _ (by rw [Lib.size_eq]; simp [← Lib.size_eq]; omega) (rowAt_lit _ (by simp [tksV, tkV, bs_data, bs]) rfl) HP.out).mono ?_
        rintro e w7 ⟨rfl, hb7⟩
        have HB7 := Lib.hid (HB6.out.trans ((below_new hb7).mono HB6.out.size))
        clear hb7
        go_wp2_with fail
        go_ret
        exact ⟨rfl, HB7.out⟩
end Go.Proofs.YtndejiminaopeaaDoor
