/- litmusref05.hex, parted, sign by their contracts. -/
import Derived.Test.YtndejiminaopeaaDoorRef2
namespace Go.Proofs.YtndejiminaopeaaDoor
open Go.RowKit

/-! ### hex -/
def hexI (c : UInt8) : Int := Lib.indexByte smallL c
theorem hexI_digit (c : UInt8) (h : digitsL.contains c = true) : hexI c = (c.toNat : Int) - 48 ∧ 48 ≤ c.toNat ∧ c.toNat ≤ 57 := by
  have := u8_all (p := fun c => !digitsL.contains c || (decide (Lib.indexByte smallL c = (c.toNat : Int) - 48) && decide (48 ≤ c.toNat) && decide (c.toNat ≤ 57))) (by decide +kernel) c
  simp only [h, Bool.not_true, Bool.false_or, Bool.and_eq_true, decide_eq_true_eq] at this
  exact ⟨this.1.1, this.1.2, this.2⟩
theorem hexI_letter (c : UInt8) (h : 97 ≤ c.toNat) (h2 : c.toNat ≤ 102) : hexI c = (c.toNat : Int) - 87 := by
  have := u8_all (p := fun c => !(decide (97 ≤ c.toNat) && decide (c.toNat ≤ 102)) || decide (Lib.indexByte smallL c = (c.toNat : Int) - 87)) (by decide +kernel) c
  simp only [decide_eq_true h, decide_eq_true h2, Bool.and_true, Bool.not_true, Bool.false_or, decide_eq_true_eq] at this
  exact this
theorem hexI_none (c : UInt8) (h : digitsL.contains c = false) (h2 : ¬ (97 ≤ c.toNat ∧ c.toNat ≤ 102)) : hexI c = -1 := by
  have := u8_all (p := fun c => digitsL.contains c || (decide (97 ≤ c.toNat) && decide (c.toNat ≤ 102)) || decide (Lib.indexByte smallL c = -1)) (by decide +kernel) c
  have h3 : (decide (97 ≤ c.toNat) && decide (c.toNat ≤ 102)) = false := by
    rw [Bool.eq_false_iff]; intro e
    rw [Bool.and_eq_true, decide_eq_true_eq, decide_eq_true_eq] at e
    exact h2 e
  simp only [h, h3, Bool.false_or, decide_eq_true_eq] at this
  exact this
set_option maxHeartbeats 1000000 in
theorem hex_ref (c : UInt8) (w : World) : Calls Tryd.prog 57 #[.int .u8 (c.toNat : Int)] w fun e w' => e = .returned (.int .i64 (hexI c)) ∧ w = w' := by
  have hc := UInt8.toNat_lt c
  go_enter Tryd.func57, Tryd.ntmps57
  cases hd : digitsL.contains c with
  | true =>
    obtain ⟨h1, h2, h3⟩ := hexI_digit c hd
    have H1 := Lib.hid h1
    have HD := Lib.hid hd
    clear h1 hd
    go_wp2_with fail
    refine (digit_is true _ _ HD.out).mono ?_
    rintro e w1 ⟨rfl, rfl⟩
    go_wp2_with fail
    go_ret
    exact ⟨ret_int (by rw [H1.out]), rfl⟩
  | false =>
    by_cases ha : 97 ≤ c.toNat ∧ c.toNat ≤ 102
    · have H1 := Lib.hid (hexI_letter c ha.1 ha.2)
      have HD := Lib.hid hd
      have k1 : (97 : Int) ≤ (c.toNat : Int) := by omega
      have k2 : (c.toNat : Int) ≤ 102 := by omega
      clear hd ha
      go_wp2_with fail
      refine (digit_is false _ _ HD.out).mono ?_
      rintro e w1 ⟨rfl, rfl⟩
      go_wp2_with fail
      go_ret
      exact ⟨ret_int (by rw [H1.out]; omega), rfl⟩
    · have H1 := Lib.hid (hexI_none c hd ha)
      have HD := Lib.hid hd
      clear hd
      by_cases h97 : 97 ≤ c.toNat
      · have k1 : (97 : Int) ≤ (c.toNat : Int) := by omega
        have k2 : (102 : Int) < (c.toNat : Int) := by omega
        clear ha
        go_wp2_with fail
        refine (digit_is false _ _ HD.out).mono ?_
        rintro e w1 ⟨rfl, rfl⟩
        go_wp2_with fail
        go_ret
        exact ⟨ret_int (by rw [H1.out]), rfl⟩
      · have k1 : (c.toNat : Int) < 97 := by omega
        clear ha
        go_wp2_with fail
        refine (digit_is false _ _ HD.out).mono ?_
        rintro e w1 ⟨rfl, rfl⟩
        go_wp2_with fail
        go_ret
        exact ⟨ret_int (by rw [H1.out]), rfl⟩

/-! ### parted -/
theorem in_some (s : ByteArray) (c : UInt8) (b : Bool) (w : World) (hs : s.size ≤ 1000000) (hb : s.data.toList.contains c = b) :
    Calls Tryd.prog 27 #[.string s, .int .u8 (c.toNat : Int)] w fun e w' => e = .returned (.bool b) ∧ w = w' := by
  have := in_ref s c w hs
  rw [hb] at this; exact this
theorem parted_is (c : UInt8) (r : List UInt8) : partedL (c :: r) = endsL.contains c := by
  have h2 := u8_all (p := fun a => decide (0 ≤ Lib.indexByte endsL a) == endsL.contains a) (by decide +kernel) c
  exact beq_iff_eq.1 h2
theorem parted_ref (s : ByteArray) (p : Nat) (b : Bool) (w : World) (hs : s.size ≤ 1000000) (hp : p ≤ s.size) (hb : partedL (s.data.toList.drop p) = b) :
    Calls Tryd.prog 45 #[.string s, .int .i64 (p : Int)] w fun e w' => e = .returned (.bool b) ∧ w = w' := by
  go_enter Tryd.func45, Tryd.ntmps45
  by_cases hlt : p < s.size
  · have hlti : (p : Int) < s.size := by omega
    have hge : decide (s.size ≤ p) = false := decide_eq_false (by omega)
    rw [drop_at s p hlt, parted_is] at hb
    have HB := Lib.hid hb
    clear hb
    go_wp2_with fail
    refine (in_some _ _ b _ (by decide) HB.out).mono ?_
    rintro e w1 ⟨rfl, rfl⟩
    go_wp2_with fail
    go_ret
    exact ⟨rfl, rfl⟩
  · have hge : decide (s.size ≤ p) = true := decide_eq_true (by omega)
    have hlti : (s.size : Int) ≤ (p : Int) := by omega
    have hbt : b = true := by
      rw [← hb, List.drop_of_length_le (by rw [← Lib.size_eq]; omega)]; rfl
    subst hbt
    clear hb
    go_wp2_with fail
    go_ret
    exact ⟨rfl, rfl⟩

/-! ### sign -/
def oneSign (c : UInt8) : Bool := ([43, 45, 42, 60, 61] : List UInt8).contains c
theorem sign_two (c d : UInt8) (r : List UInt8) : signL (c :: d :: r) = if [c, d] = [60, 61] ∨ [c, d] = [61, 61] ∨ [c, d] = [45, 62] then 2 else if oneSign c then 1 else 0 := by
  unfold signL oneSign
  by_cases c60 : c = 60
  · subst c60
    by_cases d61 : d = 61
    · subst d61; rfl
    · simp [signs, List.find?_cons, Lib.hasPrefix, List.isPrefixOf, d61, Ne.symm d61]
  · by_cases c61 : c = 61
    · subst c61
      by_cases d61 : d = 61
      · subst d61; rfl
      · simp [signs, List.find?_cons, Lib.hasPrefix, List.isPrefixOf, d61, Ne.symm d61]
    · by_cases c45 : c = 45
      · subst c45
        by_cases d62 : d = 62
        · subst d62; rfl
        · simp [signs, List.find?_cons, Lib.hasPrefix, List.isPrefixOf, d62, Ne.symm d62]
      · by_cases c43 : c = 43
        · subst c43; simp [signs, List.find?_cons, Lib.hasPrefix, List.isPrefixOf]
        · by_cases c42 : c = 42
          · subst c42; simp [signs, List.find?_cons, Lib.hasPrefix, List.isPrefixOf]
          · simp [signs, List.find?_cons, Lib.hasPrefix, List.isPrefixOf, c60, c61, c45, c43, c42, Ne.symm c60, Ne.symm c61, Ne.symm c45, Ne.symm c43, Ne.symm c42]
theorem sign_last (c : UInt8) : signL [c] = if oneSign c then 1 else 0 := by
  have h2 := u8_all (p := fun c => decide (signL [c] = if oneSign c then 1 else 0)) (by decide +kernel) c
  simpa using h2
set_option maxHeartbeats 1000000 in
theorem sign_ref (s : ByteArray) (p n : Nat) (w : World) (hs : s.size ≤ 1000000) (hp : p < s.size) (hn : signL (s.data.toList.drop p) = n) :
    Calls Tryd.prog 44 #[.string s, .int .i64 (p : Int)] w fun e w' => e = .returned (.int .i64 (n : Int)) ∧ w = w' := by
  have hlti : (p : Int) < s.size := by omega
  obtain ⟨o, ho⟩ : ∃ o, oneSign (s[p]'hp) = o := ⟨_, rfl⟩
  have HO : Hid ((⟨#[43, 45, 42, 60, 61]⟩ : ByteArray).data.toList.contains (s[p]'hp) = o) := Lib.hid ho
  go_enter Tryd.func44, Tryd.ntmps44
  by_cases h1 : p + 1 < s.size
  · have h1i : (p : Int) + 1 < s.size := by omega
    have h2i : (p : Int) + 2 ≤ s.size := by omega
    have hnat : ((p : Int) + 2).toNat = p + 2 := by omega
    have htwo : (s.extract p (p + 2)).data.toList = [s[p]'hp, s[p + 1]'h1] := by
      rw [ext_mid, drop_at s p hp, drop_at s (p + 1) h1, show p + 2 - p = 2 by omega]; rfl
    obtain ⟨two, h2⟩ : ∃ two, s.extract p (p + 2) = two := ⟨_, rfl⟩
    rw [h2] at htwo
    have hsl : ∀ wx, (Instr.slice 9 (.string s) (some (.int .i64 (p : Int))) (some (.int .i64 ((p : Int) + 2))) none).run Tryd.prog wx = .ok (.string two) wx := fun wx => by
      rw [run_slice_string wx _ _ _ _ _ _ Tryd.underlying9 (by omega) (by omega) h2i, hnat, ← h2]; rfl
    have hsg : n = if two.toList = [60, 61] ∨ two.toList = [61, 61] ∨ two.toList = [45, 62] then 2 else if o then 1 else 0 := by
      rw [tl_data, htwo, ← hn, drop_at s p hp, drop_at s (p + 1) h1, sign_two, ho]
    have HS := Lib.hid hsg
    clear h2 htwo hnat hsg ho hn
    by_cases k60 : two.toList = [60, 61]
    · have k1 : (two.toList == [60, 61]) = true := by rw [beq_iff_eq]; exact k60
      have HV : Hid (n = 2) := Lib.hid (by rw [HS.out, if_pos (.inl k60)])
      clear k60
      go_wp2_with fail
      go_ret
      exact ⟨ret_int (by rw [HV.out]; rfl), rfl⟩
    · have k1 : (two.toList == [60, 61]) = false := by rw [beq_eq_false_iff_ne]; exact k60
      by_cases k61 : two.toList = [61, 61]
      · have k2 : (two.toList == [61, 61]) = true := by rw [beq_iff_eq]; exact k61
        have HV : Hid (n = 2) := Lib.hid (by rw [HS.out, if_pos (.inr (.inl k61))])
        clear k60 k61
        go_wp2_with fail
        go_ret
        exact ⟨ret_int (by rw [HV.out]; rfl), rfl⟩
      · have k2 : (two.toList == [61, 61]) = false := by rw [beq_eq_false_iff_ne]; exact k61
        by_cases k45 : two.toList = [45, 62]
        · have k3 : (two.toList == [45, 62]) = true := by rw [beq_iff_eq]; exact k45
          have HV : Hid (n = 2) := Lib.hid (by rw [HS.out, if_pos (.inr (.inr k45))])
          clear k60 k61 k45
          go_wp2_with fail
          go_ret
          exact ⟨ret_int (by rw [HV.out]; rfl), rfl⟩
        · have k3 : (two.toList == [45, 62]) = false := by rw [beq_eq_false_iff_ne]; exact k45
          have HV : Hid (n = if o then 1 else 0) := Lib.hid (by rw [HS.out, if_neg (fun h => by rcases h with h | h | h; exact k60 h; exact k61 h; exact k45 h)])
          clear k60 k61 k45
          cases o
          · go_wp2_with fail
            refine (in_some _ _ false _ (by decide) HO.out).mono ?_
            rintro e w1 ⟨rfl, rfl⟩
            go_wp2_with fail
            go_ret
            exact ⟨ret_int (by rw [HV.out]; rfl), rfl⟩
          · go_wp2_with fail
            refine (in_some _ _ true _ (by decide) HO.out).mono ?_
            rintro e w1 ⟨rfl, rfl⟩
            go_wp2_with fail
            go_ret
            exact ⟨ret_int (by rw [HV.out]; rfl), rfl⟩
  · have h1i : (s.size : Int) ≤ (p : Int) + 1 := by omega
    have HV : Hid (n = if o then 1 else 0) := Lib.hid (by
      rw [← hn, drop_at s p hp, List.drop_of_length_le (by rw [← Lib.size_eq]; omega), sign_last, ho])
    clear ho hn
    cases o
    · go_wp2_with fail
      refine (in_some _ _ false _ (by decide) HO.out).mono ?_
      rintro e w1 ⟨rfl, rfl⟩
      go_wp2_with fail
      go_ret
      exact ⟨ret_int (by rw [HV.out]; rfl), rfl⟩
    · go_wp2_with fail
      refine (in_some _ _ true _ (by decide) HO.out).mono ?_
      rintro e w1 ⟨rfl, rfl⟩
      go_wp2_with fail
      go_ret
      exact ⟨ret_int (by rw [HV.out]; rfl), rfl⟩
end Go.Proofs.YtndejiminaopeaaDoor
