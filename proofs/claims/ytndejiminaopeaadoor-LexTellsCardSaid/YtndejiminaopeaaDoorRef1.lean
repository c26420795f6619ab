/- litmusref05's letter, digit, hex, in: contracts. -/
import Derived.Test.YtndejiminaopeaaDoorQuot
import Derived.Test.YtndejiminaopeaaDoorAlonePlain
namespace Go.Proofs.YtndejiminaopeaaDoor
open Go.RowKit

theorem letters_iff (c : UInt8) : lettersL.contains c = decide ((97 ≤ c.toNat ∧ c.toNat ≤ 122) ∨ (65 ≤ c.toNat ∧ c.toNat ≤ 90)) := by
  have := u8_all (p := fun c => lettersL.contains c == decide ((97 ≤ c.toNat ∧ c.toNat ≤ 122) ∨ (65 ≤ c.toNat ∧ c.toNat ≤ 90))) (by decide +kernel) c
  simpa using this
theorem digits_iff (c : UInt8) : digitsL.contains c = decide (48 ≤ c.toNat ∧ c.toNat ≤ 57) := by
  have := u8_all (p := fun c => digitsL.contains c == decide (48 ≤ c.toNat ∧ c.toNat ≤ 57)) (by decide +kernel) c
  simpa using this
theorem letter_ref (c : UInt8) (w : World) : Calls Tryd.prog 43 #[.int .u8 (c.toNat : Int)] w fun e w' => e = .returned (.bool (lettersL.contains c)) ∧ w' = w := by
  obtain ⟨b, hb⟩ : ∃ b, lettersL.contains c = b := ⟨_, rfl⟩
  rw [hb]
  rw [letters_iff] at hb
  have HB := Lib.hid hb
  clear hb
  go_enter Tryd.func43, Tryd.ntmps43
  go_wp2_with fail
  all_goals
    go_ret
    refine ⟨ret_bool ?_, rfl⟩
    rw [← HB.out]
    first | (rw [eq_comm, decide_eq_true_eq]; omega) | (rw [eq_comm, decide_eq_false_iff_not]; omega) | (rw [Bool.eq_iff_iff, decide_eq_true_eq, decide_eq_true_eq]; omega) | (rw [Bool.eq_iff_iff, Bool.or_eq_true, decide_eq_true_eq, decide_eq_true_eq, decide_eq_true_eq]; omega)
theorem digit_ref (c : UInt8) (w : World) : Calls Tryd.prog 42 #[.int .u8 (c.toNat : Int)] w fun e w' => e = .returned (.bool (digitsL.contains c)) ∧ w' = w := by
  obtain ⟨b, hb⟩ : ∃ b, digitsL.contains c = b := ⟨_, rfl⟩
  rw [hb]
  rw [digits_iff] at hb
  have HB := Lib.hid hb
  clear hb
  go_enter Tryd.func42, Tryd.ntmps42
  go_wp2_with fail
  all_goals
    go_ret
    refine ⟨ret_bool ?_, rfl⟩
    rw [← HB.out]
    first | (rw [eq_comm, decide_eq_true_eq]; omega) | (rw [eq_comm, decide_eq_false_iff_not]; omega) | (rw [Bool.eq_iff_iff, decide_eq_true_eq, decide_eq_true_eq]; omega) | (rw [Bool.eq_iff_iff, Bool.or_eq_true, decide_eq_true_eq, decide_eq_true_eq, decide_eq_true_eq]; omega)

/-- name, from a place on. -/
theorem inner_iff (c : UInt8) : innerL.contains c = (lettersL.contains c || digitsL.contains c || c == 95) := by
  have := u8_all (p := fun c => innerL.contains c == (lettersL.contains c || digitsL.contains c || c == 95)) (by decide +kernel) c
  simpa using this
theorem runL_drop (of : List UInt8) (s : ByteArray) (i : Nat) (h : i < s.size) : runL of (s.data.toList.drop i) = if of.contains (s[i]'h) then runL of (s.data.toList.drop (i + 1)) + 1 else 0 := by
  rw [drop_at s i h, runL_cons]
theorem letter_is (b : Bool) (c : UInt8) (w : World) (h : lettersL.contains c = b) : Calls Tryd.prog 43 #[.int .u8 (c.toNat : Int)] w fun e w' => e = .returned (.bool b) ∧ w = w' := by
  have := letter_ref c w
  rw [h] at this
  exact this.mono fun _ _ ⟨h1, h2⟩ => ⟨h1, h2.symm⟩
theorem digit_is (b : Bool) (c : UInt8) (w : World) (h : digitsL.contains c = b) : Calls Tryd.prog 42 #[.int .u8 (c.toNat : Int)] w fun e w' => e = .returned (.bool b) ∧ w = w' := by
  have := digit_ref c w
  rw [h] at this
  exact this.mono fun _ _ ⟨h1, h2⟩ => ⟨h1, h2.symm⟩

theorem runL_end (of : List UInt8) (s : ByteArray) : runL of (s.data.toList.drop s.size) = 0 := by
  rw [List.drop_of_length_le (by rw [Lib.size_eq]; omega)]; rfl
theorem pre_at (s : ByteArray) (n : Nat) (h : n < s.size) (c : UInt8) : Lib.hasPrefix (s.data.toList.drop n) [c] = decide (s[n]'h = c) := by
  rw [drop_at s n h]
  show (c == s[n] && true) = _
  rw [Bool.and_true, Bool.eq_iff_iff, beq_iff_eq, decide_eq_true_eq]
  exact eq_comm
theorem pre_end (s : ByteArray) (c : UInt8) : Lib.hasPrefix (s.data.toList.drop s.size) [c] = false := by
  rw [List.drop_of_length_le (by rw [Lib.size_eq]; omega)]; rfl
theorem named_at (s : ByteArray) (p : Nat) (h : p < s.size) (hl : lettersL.contains (s[p]'h) = true) :
    namedL (s.data.toList.drop p) = if Lib.hasPrefix (s.data.toList.drop (p + runL innerL (s.data.toList.drop p))) [63] then runL innerL (s.data.toList.drop p) + 1 else runL innerL (s.data.toList.drop p) := by
  unfold namedL
  rw [if_neg (by rw [drop_at s p h]; simp), if_neg (by rw [drop_at s p h]; simp only [List.take_succ_cons, List.take_zero]; rw [runL_cons, if_pos hl]; omega), List.drop_drop]
theorem named_not (s : ByteArray) (p : Nat) (h : p < s.size) (hl : lettersL.contains (s[p]'h) = false) : namedL (s.data.toList.drop p) = 0 := by
  unfold namedL
  rw [if_neg (by rw [drop_at s p h]; simp), if_pos (by rw [drop_at s p h]; simp only [List.take_succ_cons, List.take_zero]; rw [runL_cons, if_neg (by rw [hl]; decide)])]
theorem named_out (s : ByteArray) (p : Nat) (h : s.size ≤ p) : namedL (s.data.toList.drop p) = 0 := by
  rw [List.drop_of_length_le (by rw [← Lib.size_eq]; omega)]; rfl

set_option maxRecDepth 100000 in
set_option maxHeartbeats 4000000 in
theorem in_ref (s : ByteArray) (c : UInt8) (w : World) (hs : s.size ≤ 1000000) :
    Calls Tryd.prog 27 #[.string s, .int .u8 (c.toNat : Int)] w fun e w' => e = .returned (.bool (s.data.toList.contains c)) ∧ w = w' := by
  go_enter Tryd.func27, Tryd.ntmps27
  go_wp2
  go_loop [5] (fun v5 => ∃ i : Nat, v5 = .int .i64 (i : Int) ∧ i ≤ s.size ∧ Hid (∀ x ∈ s.data.toList.take i, x ≠ c)) (fun v5 => s.size - (intOf v5).toNat)
  case atStart => exact ⟨0, rfl, by omega, Lib.hid (by simp)⟩
  case round =>
    obtain ⟨i, rfl, hi, HA⟩ := hrel
    by_cases hlt : i < s.size
    · have hlti : (i : Int) < s.size := by omega
      by_cases hc : s[i]'hlt = c
      · have k1 : (((s[i]'hlt).toNat : Int) == (c.toNat : Int)) = true := by rw [hc]; simp
        have HC := Lib.hid hc
        clear hc
        go_wp2
        go_ret
        refine ⟨ret_bool ?_, rfl⟩
        rw [← HC.out]
        simp
        show s.data[i] ∈ s.data
        simp
      · have k1 : (((s[i]'hlt).toNat : Int) == (c.toNat : Int)) = false := by
          rw [beq_eq_false_iff_ne]; intro h; exact hc (UInt8.toNat_inj.1 (by omega))
        have HC := Lib.hid hc
        clear hc
        go_wp2
        go_round
        case rel =>
          refine ⟨i + 1, by go_num, by omega, Lib.hid fun x hx => ?_⟩
          rw [List.take_succ_eq_append_getElem (by rw [← Lib.size_eq]; exact hlt), List.mem_append] at hx
          rcases hx with hx | hx
          · exact HA.out x hx
          · simp at hx; subst hx; exact HC.out
        case measure => simp [intOf]; omega
    · have hie : i = s.size := by omega
      have HE := Lib.hid hie
      clear hie
      go_wp2
      go_ret
      refine ⟨ret_bool ?_, rfl⟩
      rw [eq_comm, Bool.eq_false_iff]
      intro h
      have := HA.out c (by rw [HE.out, List.take_of_length_le (by rw [Lib.size_eq]; omega)]; simpa using h)
      exact this rfl

set_option maxRecDepth 100000 in
set_option maxHeartbeats 4000000 in
theorem name_ref (s : ByteArray) (p : Nat) (w : World) (hs : s.size ≤ 1000000) (hp : p ≤ s.size) :
    Calls Tryd.prog 36 #[.string s, .int .i64 (p : Int)] w fun e w' => e = .returned (.int .i64 (namedL (s.data.toList.drop p) : Nat)) ∧ w = w' := by
  go_enter Tryd.func36, Tryd.ntmps36
  by_cases hlt : p < s.size
  · have hlti : (p : Int) < s.size := by omega
    have hge : decide (s.size ≤ p) = false := decide_eq_false (by omega)
    cases hL : lettersL.contains (s[p]'hlt) with
    | false =>
      have HL := Lib.hid hL
      have HN := Lib.hid (named_not s p hlt hL)
      clear hL
      go_wp2_with fail
      refine (letter_is false _ _ HL.out).mono ?_
      rintro e w1 ⟨rfl, rfl⟩
      go_wp2_with fail
      go_ret
      exact ⟨ret_int (by rw [HN.out]; rfl), rfl⟩
    | true =>
      have HL := Lib.hid hL
      have HN := Lib.hid (named_at s p hlt hL)
      have HI := Lib.hid (show runL innerL (s.data.toList.drop p) = runL innerL (s.data.toList.drop (p + 1)) + 1 by rw [runL_drop _ s p hlt, if_pos (letters_inner _ hL)])
      clear hL
      go_wp2_with fail
      refine (letter_is true _ _ HL.out).mono ?_
      rintro e w1 ⟨rfl, rfl⟩
      go_wp2_with fail
      go_loop [5] (fun v5 => ∃ n : Nat, v5 = .int .i64 (n : Int) ∧ n ≤ s.size ∧ p < n ∧ Hid (n + runL innerL (s.data.toList.drop n) = p + runL innerL (s.data.toList.drop p))) (fun v5 => s.size - (intOf v5).toNat)
      case atStart => exact ⟨p + 1, by go_num, by omega, by omega, Lib.hid (by rw [HI.out]; omega)⟩
      case round =>
        obtain ⟨n, rfl, hn, hpn, HR⟩ := hrel
        by_cases hlt2 : n < s.size
        · have hlti2 : (n : Int) < s.size := by omega
          have HD := Lib.hid (runL_drop innerL s n hlt2)
          have HX := Lib.hid (inner_iff (s[n]'hlt2))
          cases hL2 : lettersL.contains (s[n]'hlt2) with
          | true =>
            have HL2 := Lib.hid hL2
            clear hL2
            go_wp2_with fail
            refine (letter_is true _ _ HL2.out).mono ?_
            rintro e w1 ⟨rfl, rfl⟩
            go_wp2_with fail
            go_round
            case rel => exact ⟨n + 1, by go_num, by omega, by omega, Lib.hid (by rw [← HR.out, HD.out, HX.out, HL2.out]; simp; omega)⟩
            case measure => simp [intOf]; omega
          | false =>
            have HL2 := Lib.hid hL2
            clear hL2
            cases hd : digitsL.contains (s[n]'hlt2) with
            | true =>
              have Hd := Lib.hid hd
              clear hd
              go_wp2_with fail
              refine (letter_is false _ _ HL2.out).mono ?_
              rintro e w1 ⟨rfl, rfl⟩
              go_wp2_with fail
              refine (digit_is true _ _ Hd.out).mono ?_
              rintro e w1 ⟨rfl, rfl⟩
              go_wp2_with fail
              go_round
              case rel => exact ⟨n + 1, by go_num, by omega, by omega, Lib.hid (by rw [← HR.out, HD.out, HX.out, HL2.out, Hd.out]; simp; omega)⟩
              case measure => simp [intOf]; omega
            | false =>
              have Hd := Lib.hid hd
              clear hd
              by_cases h95 : s[n]'hlt2 = 95
              · have k1 : (((s[n]'hlt2).toNat : Int) == 95) = true := by rw [h95]; rfl
                have H95 := Lib.hid h95
                clear h95
                go_wp2_with fail
                refine (letter_is false _ _ HL2.out).mono ?_
                rintro e w1 ⟨rfl, rfl⟩
                go_wp2_with fail
                refine (digit_is false _ _ Hd.out).mono ?_
                rintro e w1 ⟨rfl, rfl⟩
                go_wp2_with fail
                go_round
                case rel => exact ⟨n + 1, by go_num, by omega, by omega, Lib.hid (by rw [← HR.out, HD.out, HX.out, HL2.out, Hd.out, H95.out]; simp; omega)⟩
                case measure => simp [intOf]; omega
              · have k1 : (((s[n]'hlt2).toNat : Int) == 95) = false := by
                  rw [beq_eq_false_iff_ne]; intro h; exact h95 (UInt8.toNat_inj.1 (by simp; omega))
                have HZ : Hid (n = p + runL innerL (s.data.toList.drop p)) := Lib.hid (by rw [← HR.out, HD.out, HX.out, HL2.out, Hd.out, beq_eq_false_iff_ne.2 h95]; simp)
                by_cases h63 : s[n]'hlt2 = 63
                · have k2 : (((s[n]'hlt2).toNat : Int) == 63) = true := by rw [h63]; rfl
                  have HV : Hid (namedL (s.data.toList.drop p) + p = n + 1) := Lib.hid (by rw [HN.out, ← HZ.out, pre_at s n hlt2, decide_eq_true h63, if_pos rfl]; have := HZ.out; omega)
                  clear h63 h95
                  go_wp2_with fail
                  refine (letter_is false _ _ HL2.out).mono ?_
                  rintro e w1 ⟨rfl, rfl⟩
                  go_wp2_with fail
                  refine (digit_is false _ _ Hd.out).mono ?_
                  rintro e w1 ⟨rfl, rfl⟩
                  go_wp2_with fail
                  go_ret
                  exact ⟨ret_int (by have := HV.out; omega), rfl⟩
                · have k2 : (((s[n]'hlt2).toNat : Int) == 63) = false := by
                    rw [beq_eq_false_iff_ne]; intro h; exact h63 (UInt8.toNat_inj.1 (by simp; omega))
                  have HV : Hid (namedL (s.data.toList.drop p) + p = n) := Lib.hid (by rw [HN.out, ← HZ.out, pre_at s n hlt2, decide_eq_false h63, if_neg (by decide)]; have := HZ.out; omega)
                  clear h63 h95
                  go_wp2_with fail
                  refine (letter_is false _ _ HL2.out).mono ?_
                  rintro e w1 ⟨rfl, rfl⟩
                  go_wp2_with fail
                  refine (digit_is false _ _ Hd.out).mono ?_
                  rintro e w1 ⟨rfl, rfl⟩
                  go_wp2_with fail
                  go_ret
                  exact ⟨ret_int (by have := HV.out; omega), rfl⟩
        · have hne : n = s.size := by omega
          have HV : Hid (namedL (s.data.toList.drop p) + p = n) := Lib.hid (by
            have h1 := HR.out
            rw [hne, runL_end] at h1
            rw [HN.out, ← h1, Nat.add_zero, pre_end, if_neg (by decide)]; omega)
          clear hne
          go_wp2_with fail
          go_ret
          exact ⟨ret_int (by have := HV.out; omega), rfl⟩
  · have hlti : (s.size : Int) ≤ (p : Int) := by omega
    have HN := Lib.hid (named_out s p (by omega))
    go_wp2_with fail
    go_ret
    exact ⟨ret_int (by rw [HN.out]; rfl), rfl⟩
end Go.Proofs.YtndejiminaopeaaDoor
