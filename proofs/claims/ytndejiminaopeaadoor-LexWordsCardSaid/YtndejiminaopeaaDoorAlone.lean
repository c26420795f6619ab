/- LexAlone: the walk. -/
import Derived.Test.YtndejiminaopeaaDoorFew
import Derived.Test.YtndejiminaopeaaDoorAlonePlain
namespace Go.Proofs.YtndejiminaopeaaDoor
open Go.RowKit

theorem Name_is (b : Bool) (s : ByteArray) (w : World) (hs : s.size ≤ 1000000) (h : nameB s.data.toList = b) :
    Calls Tryd.prog 18 #[.string s] w fun e w' => e = .returned (.bool b) ∧ Below w.heap.size w w' := by
  have := Name_calls s w (by omega)
  rw [h] at this
  exact this
theorem Number_is (b : Bool) (s : ByteArray) (w : World) (hs : s.size ≤ 1000000) (h : numB s.data.toList = b) :
    Calls Tryd.prog 19 #[.string s] w fun e w' => e = .returned (.bool b) ∧ Below w.heap.size w w' := by
  have := Number_calls s w (by omega)
  rw [h] at this
  exact this

theorem cat_l (s : ByteArray) (l : List UInt8) : (s ++ (⟨l.toArray⟩ : ByteArray)).data.toList = s.data.toList ++ l := by simp
theorem cat_r (l : List UInt8) (s : ByteArray) : ((⟨l.toArray⟩ : ByteArray) ++ s).data.toList = l ++ s.data.toList := by simp
theorem last_eq {s : ByteArray} {h : s.size - 1 < s.size} (e : s[s.size - 1]'h = 63) : ((s[s.size - 1]'h).toNat : Int) = 63 := by rw [e]; rfl
theorem last_ne {s : ByteArray} {h : s.size - 1 < s.size} (e : ¬ s[s.size - 1]'h = 63) : ¬ ((s[s.size - 1]'h).toNat : Int) = 63 := fun h2 => e (u8_of_int (b := 63) h2)
theorem last_list {s : ByteArray} (h0 : 0 < s.size) (e : ¬ s[s.size - 1]'(by omega) = 63) : s.data.toList.getLast? ≠ some 63 := by
  intro h
  apply e
  rw [List.getLast?_eq_getElem?] at h
  have hl : s.data.toList.length = s.size := (Lib.size_eq s).symm
  rw [hl] at h
  have := List.getElem?_eq_some_iff.1 h
  obtain ⟨h1, h2⟩ := this
  rw [← h2]; simp; rfl

set_option maxRecDepth 100000 in
set_option maxHeartbeats 4000000 in
theorem LexAlone_calls (s0 : ByteArray) (w : World) (hg : Laid0 w) (hs0 : s0.size ≤ 9223372036854775807) :
    Calls Tryd.prog 6 #[.string s0] w fun e w' => e = .returned (.bool true) ∧ Below w.heap.size w w' := by
  go_enter Tryd.func6, Tryd.ntmps6
  go_wp2_with fail
  refine (works_calls _ hg).mono ?_
  rintro e w1 ⟨rfl, hb1⟩
  have hg1 := Lib.hid (hg.below hb1)
  have HB1 := Lib.hid hb1
  clear hb1
  go_wp2_with fail
  refine (few_calls _ 60 _ hs0 (by decide)).mono ?_
  rintro e w2 ⟨s, rfl, _, hs, hb2⟩
  have hg2 := Lib.hid (hg1.out.below hb2)
  have HB2 := Lib.hid (HB1.out.trans (hb2.mono HB1.out.size))
  clear hb2 HB1 hg1
  have h1000 : s.size ≤ 1000000 := by omega
  go_wp2_with fail
  have HAa := Lib.hid (cat_l s [97])
  have HAq := Lib.hid (cat_l s [63])
  have HQQ := Lib.hid (show nameB (s ++ ⟨#[63, 63]⟩).data.toList = false by rw [cat_l s [63, 63]]; exact name_qq _)
  have H01 := Lib.hid (show numB ((⟨#[48]⟩ : ByteArray) ++ s ++ ⟨#[49]⟩).data.toList = false by rw [cat_l _ [49], cat_r [48]]; exact num_long _)
  have HMI := Lib.hid (show nameB ((⟨#[45]⟩ : ByteArray) ++ s).data.toList = false by rw [cat_r [45]]; exact name_minus _)
  cases hN : nameB s.data.toList with
  | true =>
    have HN := Lib.hid hN
    have HM := Lib.hid (alone_not hN)
    have HT := Lib.hid (show decide (toksL s.data.toList = ([⟨4, s.data.toList, 0⟩], none)) = true by rw [alone_name hN]; simp)
    have hs1 : 0 < s.size := by
      have := alone_ne hN
      rw [Lib.size_eq]
      exact List.length_pos_iff.2 this
    have hs1i : (1 : Int) ≤ (s.size : Int) := by omega
    have hs1j : (s.size : Int) - 1 < (s.size : Int) := by omega
    have hs1k : s.size - 1 < s.size := by omega
    clear hN
    refine (Name_is true _ _ (by first | omega | (rw [Lib.size_eq]; simp [← Lib.size_eq]; omega)) (by exact HN.out)).mono ?_
    rintro e w3 ⟨rfl, hb3⟩
    have hg3 := Lib.hid (hg2.out.below hb3)
    have HB3 := Lib.hid (HB2.out.trans (hb3.mono HB2.out.size))
    clear hb3 HB2 hg2
    go_wp2_with fail
    refine (Number_is false _ _ (by first | omega | (rw [Lib.size_eq]; simp [← Lib.size_eq]; omega)) (by exact HM.out)).mono ?_
    rintro e w4 ⟨rfl, hb4⟩
    have hg4 := Lib.hid (hg3.out.below hb4)
    have HB4 := Lib.hid (HB3.out.trans (hb4.mono HB3.out.size))
    clear hb4 HB3 hg3
    go_wp2_with fail
    by_cases hq : s[s.size - 1]'(by omega) = 63
    · have k1 : (((s[s.size - 1]'(by omega)).toNat : Int) == 63) = true := by simpa using last_eq hq
      have k2 : (((s[s.size - 1]'(by omega)).toNat : Int) != 63) = false := by simpa using last_eq hq
      clear hq
      refine (reads_is true _ _ [⟨4, s.data.toList, 0⟩] _ (by first | omega | (rw [Lib.size_eq]; simp [← Lib.size_eq]; omega)) (rowAt_lit _ (by simp [tksV, tkV, bs_data]) rfl) (by exact HT.out)).mono ?_
      rintro e w5 ⟨rfl, hb5⟩
      have hg5 := Lib.hid (hg4.out.below (below_new hb5))
      have HB5 := Lib.hid (HB4.out.trans ((below_new hb5).mono HB4.out.size))
      clear hb5 HB4 hg4
      go_wp2_with fail
      refine (Name_is false _ _ (by first | omega | (rw [Lib.size_eq]; simp [← Lib.size_eq]; omega)) (by exact HQQ.out)).mono ?_
      rintro e w6 ⟨rfl, hb6⟩
      have hg6 := Lib.hid (hg5.out.below hb6)
      have HB6 := Lib.hid (HB5.out.trans (hb6.mono HB5.out.size))
      clear hb6 HB5 hg5
      go_wp2_with fail
      refine (Number_is false _ _ (by first | omega | (rw [Lib.size_eq]; simp [← Lib.size_eq]; omega)) (by exact H01.out)).mono ?_
      rintro e w7 ⟨rfl, hb7⟩
      have hg7 := Lib.hid (hg6.out.below hb7)
      have HB7 := Lib.hid (HB6.out.trans (hb7.mono HB6.out.size))
      clear hb7 HB6 hg6
      go_wp2_with fail
      refine (Name_is false _ _ (by first | omega | (rw [Lib.size_eq]; simp [← Lib.size_eq]; omega)) (by exact HMI.out)).mono ?_
      rintro e w8 ⟨rfl, hb8⟩
      have hg8 := Lib.hid (hg7.out.below hb8)
      have HB8 := Lib.hid (HB7.out.trans (hb8.mono HB7.out.size))
      clear hb8 HB7 hg7
      go_wp2_with fail
      go_ret
      exact ⟨rfl, HB8.out⟩
    · have k1 : (((s[s.size - 1]'(by omega)).toNat : Int) == 63) = false := by simpa using last_ne hq
      have k2 : (((s[s.size - 1]'(by omega)).toNat : Int) != 63) = true := by simpa using last_ne hq
      have HL := Lib.hid (name_more HN.out (last_list hs1 hq))
      clear hq
      refine (reads_is true _ _ [⟨4, s.data.toList, 0⟩] _ (by first | omega | (rw [Lib.size_eq]; simp [← Lib.size_eq]; omega)) (rowAt_lit _ (by simp [tksV, tkV, bs_data]) rfl) (by exact HT.out)).mono ?_
      rintro e w5 ⟨rfl, hb5⟩
      have hg5 := Lib.hid (hg4.out.below (below_new hb5))
      have HB5 := Lib.hid (HB4.out.trans ((below_new hb5).mono HB4.out.size))
      clear hb5 HB4 hg4
      go_wp2_with fail
      refine (Name_is true _ _ (by first | omega | (rw [Lib.size_eq]; simp [← Lib.size_eq]; omega)) (by rw [cat_l s [97]]; exact HL.out.1)).mono ?_
      rintro e w6 ⟨rfl, hb6⟩
      have hg6 := Lib.hid (hg5.out.below hb6)
      have HB6 := Lib.hid (HB5.out.trans (hb6.mono HB5.out.size))
      clear hb6 HB5 hg5
      go_wp2_with fail
      refine (Name_is true _ _ (by first | omega | (rw [Lib.size_eq]; simp [← Lib.size_eq]; omega)) (by rw [cat_l s [63]]; exact HL.out.2)).mono ?_
      rintro e w7 ⟨rfl, hb7⟩
      have hg7 := Lib.hid (hg6.out.below hb7)
      have HB7 := Lib.hid (HB6.out.trans (hb7.mono HB6.out.size))
      clear hb7 HB6 hg6
      go_wp2_with fail
      refine (Name_is false _ _ (by first | omega | (rw [Lib.size_eq]; simp [← Lib.size_eq]; omega)) (by exact HQQ.out)).mono ?_
      rintro e w8 ⟨rfl, hb8⟩
      have hg8 := Lib.hid (hg7.out.below hb8)
      have HB8 := Lib.hid (HB7.out.trans (hb8.mono HB7.out.size))
      clear hb8 HB7 hg7
      go_wp2_with fail
      refine (Number_is false _ _ (by first | omega | (rw [Lib.size_eq]; simp [← Lib.size_eq]; omega)) (by exact H01.out)).mono ?_
      rintro e w9 ⟨rfl, hb9⟩
      have hg9 := Lib.hid (hg8.out.below hb9)
      have HB9 := Lib.hid (HB8.out.trans (hb9.mono HB8.out.size))
      clear hb9 HB8 hg8
      go_wp2_with fail
      refine (Name_is false _ _ (by first | omega | (rw [Lib.size_eq]; simp [← Lib.size_eq]; omega)) (by exact HMI.out)).mono ?_
      rintro e w10 ⟨rfl, hb10⟩
      have hg10 := Lib.hid (hg9.out.below hb10)
      have HB10 := Lib.hid (HB9.out.trans (hb10.mono HB9.out.size))
      clear hb10 HB9 hg9
      go_wp2_with fail
      go_ret
      exact ⟨rfl, HB10.out⟩
  | false =>
    cases hM : numB s.data.toList with
    | true =>
      have HN := Lib.hid hN
      have HM := Lib.hid hM
      have HT := Lib.hid (show decide (toksL s.data.toList = ([⟨2, s.data.toList, 0⟩], none)) = true by rw [alone_num hM]; simp)
      have HF := Lib.hid (show failsB (s ++ ⟨#[97]⟩).data.toList 0 = true by rw [cat_l s [97]]; unfold failsB; rw [num_a hM]; rfl)
      clear hN hM
      refine (Name_is false _ _ (by first | omega | (rw [Lib.size_eq]; simp [← Lib.size_eq]; omega)) (by exact HN.out)).mono ?_
      rintro e w3 ⟨rfl, hb3⟩
      have hg3 := Lib.hid (hg2.out.below hb3)
      have HB3 := Lib.hid (HB2.out.trans (hb3.mono HB2.out.size))
      clear hb3 HB2 hg2
      go_wp2_with fail
      refine (Number_is true _ _ (by first | omega | (rw [Lib.size_eq]; simp [← Lib.size_eq]; omega)) (by exact HM.out)).mono ?_
      rintro e w4 ⟨rfl, hb4⟩
      have hg4 := Lib.hid (hg3.out.below hb4)
      have HB4 := Lib.hid (HB3.out.trans (hb4.mono HB3.out.size))
      clear hb4 HB3 hg3
      go_wp2_with fail
      refine (reads_is true _ _ [⟨2, s.data.toList, 0⟩] _ (by first | omega | (rw [Lib.size_eq]; simp [← Lib.size_eq]; omega)) (rowAt_lit _ (by simp [tksV, tkV, bs_data]) rfl) (by exact HT.out)).mono ?_
      rintro e w5 ⟨rfl, hb5⟩
      have hg5 := Lib.hid (hg4.out.below (below_new hb5))
      have HB5 := Lib.hid (HB4.out.trans ((below_new hb5).mono HB4.out.size))
      clear hb5 HB4 hg4
      go_wp2_with fail
      refine (Number_is false _ _ (by first | omega | (rw [Lib.size_eq]; simp [← Lib.size_eq]; omega)) (by exact HAa.out.symm ▸ num_a2 HM.out)).mono ?_
      rintro e w6 ⟨rfl, hb6⟩
      have hg6 := Lib.hid (hg5.out.below hb6)
      have HB6 := Lib.hid (HB5.out.trans (hb6.mono HB5.out.size))
      clear hb6 HB5 hg5
      go_wp2_with fail
      refine (fails_is true _ _ _ (by first | omega | (rw [Lib.size_eq]; simp [← Lib.size_eq]; omega)) hg6.out (by exact HF.out)).mono ?_
      rintro e w7 ⟨rfl, hb7⟩
      have hg7 := Lib.hid (hg6.out.below hb7)
      have HB7 := Lib.hid (HB6.out.trans (hb7.mono HB6.out.size))
      clear hb7 HB6 hg6
      go_wp2_with fail
      refine (Name_is false _ _ (by first | omega | (rw [Lib.size_eq]; simp [← Lib.size_eq]; omega)) (by exact HQQ.out)).mono ?_
      rintro e w8 ⟨rfl, hb8⟩
      have hg8 := Lib.hid (hg7.out.below hb8)
      have HB8 := Lib.hid (HB7.out.trans (hb8.mono HB7.out.size))
      clear hb8 HB7 hg7
      go_wp2_with fail
      refine (Number_is false _ _ (by first | omega | (rw [Lib.size_eq]; simp [← Lib.size_eq]; omega)) (by exact H01.out)).mono ?_
      rintro e w9 ⟨rfl, hb9⟩
      have hg9 := Lib.hid (hg8.out.below hb9)
      have HB9 := Lib.hid (HB8.out.trans (hb9.mono HB8.out.size))
      clear hb9 HB8 hg8
      go_wp2_with fail
      refine (Name_is false _ _ (by first | omega | (rw [Lib.size_eq]; simp [← Lib.size_eq]; omega)) (by exact HMI.out)).mono ?_
      rintro e w10 ⟨rfl, hb10⟩
      have hg10 := Lib.hid (hg9.out.below hb10)
      have HB10 := Lib.hid (HB9.out.trans (hb10.mono HB9.out.size))
      clear hb10 HB9 hg9
      go_wp2_with fail
      go_ret
      exact ⟨rfl, HB10.out⟩
    | false =>
      have HN := Lib.hid hN
      have HM := Lib.hid hM
      clear hN hM
      refine (Name_is false _ _ (by first | omega | (rw [Lib.size_eq]; simp [← Lib.size_eq]; omega)) (by exact HN.out)).mono ?_
      rintro e w3 ⟨rfl, hb3⟩
      have hg3 := Lib.hid (hg2.out.below hb3)
      have HB3 := Lib.hid (HB2.out.trans (hb3.mono HB2.out.size))
      clear hb3 HB2 hg2
      go_wp2_with fail
      refine (Number_is false _ _ (by first | omega | (rw [Lib.size_eq]; simp [← Lib.size_eq]; omega)) (by exact HM.out)).mono ?_
      rintro e w4 ⟨rfl, hb4⟩
      have hg4 := Lib.hid (hg3.out.below hb4)
      have HB4 := Lib.hid (HB3.out.trans (hb4.mono HB3.out.size))
      clear hb4 HB3 hg3
      go_wp2_with fail
      refine (Name_is false _ _ (by first | omega | (rw [Lib.size_eq]; simp [← Lib.size_eq]; omega)) (by exact HQQ.out)).mono ?_
      rintro e w5 ⟨rfl, hb5⟩
      have hg5 := Lib.hid (hg4.out.below hb5)
      have HB5 := Lib.hid (HB4.out.trans (hb5.mono HB4.out.size))
      clear hb5 HB4 hg4
      go_wp2_with fail
      refine (Number_is false _ _ (by first | omega | (rw [Lib.size_eq]; simp [← Lib.size_eq]; omega)) (by exact H01.out)).mono ?_
      rintro e w6 ⟨rfl, hb6⟩
      have hg6 := Lib.hid (hg5.out.below hb6)
      have HB6 := Lib.hid (HB5.out.trans (hb6.mono HB5.out.size))
      clear hb6 HB5 hg5
      go_wp2_with fail
      refine (Name_is false _ _ (by first | omega | (rw [Lib.size_eq]; simp [← Lib.size_eq]; omega)) (by exact HMI.out)).mono ?_
      rintro e w7 ⟨rfl, hb7⟩
      have hg7 := Lib.hid (hg6.out.below hb7)
      have HB7 := Lib.hid (HB6.out.trans (hb7.mono HB6.out.size))
      clear hb7 HB6 hg6
      go_wp2_with fail
      go_ret
      exact ⟨rfl, HB7.out⟩
end Go.Proofs.YtndejiminaopeaaDoor
