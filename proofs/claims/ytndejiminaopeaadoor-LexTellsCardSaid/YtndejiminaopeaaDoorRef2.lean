/- litmusref05.number, Number, Name by their contracts (the walk of number is printed by gen_ref2.py). -/
import Derived.Test.YtndejiminaopeaaDoorRef1
namespace Go.Proofs.YtndejiminaopeaaDoor
open Go.RowKit

/-- Of how many bytes a number at the beginning is: its digits, with a - maybe. -/
def numLenL (l : List UInt8) : Nat :=
  let m := if Lib.hasPrefix l [45] then 1 else 0
  if runL digitsL (l.drop m) = 0 then 0 else m + runL digitsL (l.drop m)
theorem numLen_minus (s : ByteArray) (p : Nat) (h : Lib.hasPrefix (s.data.toList.drop p) [45] = true) : numLenL (s.data.toList.drop p) = if runL digitsL (s.data.toList.drop (p + 1)) = 0 then 0 else 1 + runL digitsL (s.data.toList.drop (p + 1)) := by
  unfold numLenL
  simp only [h, if_true, List.drop_drop]
theorem numLen_plain (s : ByteArray) (p : Nat) (h : Lib.hasPrefix (s.data.toList.drop p) [45] = false) : numLenL (s.data.toList.drop p) = if runL digitsL (s.data.toList.drop p) = 0 then 0 else runL digitsL (s.data.toList.drop p) := by
  unfold numLenL
  simp [h]
theorem beqN {c : UInt8} {n : Nat} (hn : n < 256) (h : c = UInt8.ofNat n) : ((c.toNat : Int) == (n : Int)) = true := by
  rw [beq_iff_eq, h, UInt8.toNat_ofNat_of_lt' hn]
theorem bneN {c : UInt8} {n : Nat} (hn : n < 256) (h : ¬ c = UInt8.ofNat n) : ((c.toNat : Int) == (n : Int)) = false := by
  rw [beq_eq_false_iff_ne]
  intro e
  exact h (UInt8.toNat_inj.1 (by rw [UInt8.toNat_ofNat_of_lt' hn]; omega))

set_option maxRecDepth 100000 in
set_option maxHeartbeats 4000000 in
theorem number_ref (s : ByteArray) (p : Nat) (w : World) (hs : s.size ≤ 1000000) (hp : p ≤ s.size) :
    Calls Tryd.prog 37 #[.string s, .int .i64 (p : Int)] w fun e w' => e = .returned (.int .i64 (numLenL (s.data.toList.drop p) : Nat)) ∧ w = w' := by
  go_enter Tryd.func37, Tryd.ntmps37
  by_cases hlt : p < s.size
  · have hlti : (p : Int) < s.size := by omega
    have hge : decide (p < s.size) = true := decide_eq_true hlt
    by_cases h45 : s[p]'hlt = 45
    · have k0 : (((s[p]'hlt).toNat : Int) == 45) = true := beqN (n := 45) (by decide) h45
      have HN := Lib.hid (numLen_minus s p (by rw [pre_at s p hlt, h45]; rfl))
      clear h45
      go_wp2_with fail
      go_loop [5] (fun v5 => ∃ n : Nat, v5 = .int .i64 (n : Int) ∧ n ≤ s.size ∧ p + 1 ≤ n ∧ Hid (n + runL digitsL (s.data.toList.drop n) = p + 1 + runL digitsL (s.data.toList.drop (p + 1)))) (fun v5 => s.size - (intOf v5).toNat)
      case atStart => exact ⟨p + 1, by go_num, by omega, by omega, Lib.hid rfl⟩
      case round =>
        obtain ⟨n, rfl, hn, hpn, HR⟩ := hrel
        by_cases hlt2 : n < s.size
        · have hlti2 : (n : Int) < s.size := by omega
          have HD := Lib.hid (runL_drop digitsL s n hlt2)
          cases hd : digitsL.contains (s[n]'hlt2) with
          | true =>
            have Hd := Lib.hid hd
            clear hd
            go_wp2_with fail
            refine (digit_is true _ _ Hd.out).mono ?_
            rintro e w1 ⟨rfl, rfl⟩
            go_wp2_with fail
            go_round
            case rel => exact ⟨n + 1, by go_num, by omega, by omega, Lib.hid (by rw [← HR.out, HD.out, Hd.out]; simp; omega)⟩
            case measure => simp [intOf]; omega
          | false =>
            have Hd := Lib.hid hd
            have HZ : Hid (n = p + 1 + runL digitsL (s.data.toList.drop (p + 1))) := Lib.hid (by rw [← HR.out, HD.out, hd]; simp)
            clear hd
            by_cases h0 : runL digitsL (s.data.toList.drop (p + 1)) = 0
            · have k5 : ((n : Int) == (p : Int) + 1) = true := by rw [beq_iff_eq]; have := HZ.out; omega
              have HV : Hid (numLenL (s.data.toList.drop p) = 0) := Lib.hid (by rw [HN.out, if_pos h0])
              clear h0
              go_wp2_with fail
              refine (digit_is false _ _ Hd.out).mono ?_
              rintro e w1 ⟨rfl, rfl⟩
              go_wp2_with fail
              go_ret
              exact ⟨ret_int (by rw [HV.out]; rfl), rfl⟩
            · have k5 : ((n : Int) == (p : Int) + 1) = false := by rw [beq_eq_false_iff_ne]; have := HZ.out; omega
              have HV : Hid (numLenL (s.data.toList.drop p) + p = n) := Lib.hid (by rw [HN.out, if_neg h0]; have := HZ.out; omega)
              clear h0
              go_wp2_with fail
              refine (digit_is false _ _ Hd.out).mono ?_
              rintro e w1 ⟨rfl, rfl⟩
              go_wp2_with fail
              go_ret
              exact ⟨ret_int (by have := HV.out; omega), rfl⟩
        · have HZ : Hid (n = p + 1 + runL digitsL (s.data.toList.drop (p + 1))) := Lib.hid (by
            have hne : n = s.size := by omega
            have h1 := HR.out
            rw [hne, runL_end] at h1
            omega)
          by_cases h0 : runL digitsL (s.data.toList.drop (p + 1)) = 0
          · have k5 : ((n : Int) == (p : Int) + 1) = true := by rw [beq_iff_eq]; have := HZ.out; omega
            have HV : Hid (numLenL (s.data.toList.drop p) = 0) := Lib.hid (by rw [HN.out, if_pos h0])
            clear h0
            go_wp2_with fail
            go_ret
            exact ⟨ret_int (by rw [HV.out]; rfl), rfl⟩
          · have k5 : ((n : Int) == (p : Int) + 1) = false := by rw [beq_eq_false_iff_ne]; have := HZ.out; omega
            have HV : Hid (numLenL (s.data.toList.drop p) + p = n) := Lib.hid (by rw [HN.out, if_neg h0]; have := HZ.out; omega)
            clear h0
            go_wp2_with fail
            go_ret
            exact ⟨ret_int (by have := HV.out; omega), rfl⟩
    · have k0 : (((s[p]'hlt).toNat : Int) == 45) = false := bneN (n := 45) (by decide) h45
      have HN := Lib.hid (numLen_plain s p (by rw [pre_at s p hlt]; exact decide_eq_false h45))
      clear h45
      go_wp2_with fail
      go_loop [5] (fun v5 => ∃ n : Nat, v5 = .int .i64 (n : Int) ∧ n ≤ s.size ∧ p ≤ n ∧ Hid (n + runL digitsL (s.data.toList.drop n) = p + runL digitsL (s.data.toList.drop (p)))) (fun v5 => s.size - (intOf v5).toNat)
      case atStart => exact ⟨p, by go_num, by omega, by omega, Lib.hid rfl⟩
      case round =>
        obtain ⟨n, rfl, hn, hpn, HR⟩ := hrel
        by_cases hlt2 : n < s.size
        · have hlti2 : (n : Int) < s.size := by omega
          have HD := Lib.hid (runL_drop digitsL s n hlt2)
          cases hd : digitsL.contains (s[n]'hlt2) with
          | true =>
            have Hd := Lib.hid hd
            clear hd
            go_wp2_with fail
            refine (digit_is true _ _ Hd.out).mono ?_
            rintro e w1 ⟨rfl, rfl⟩
            go_wp2_with fail
            go_round
            case rel => exact ⟨n + 1, by go_num, by omega, by omega, Lib.hid (by rw [← HR.out, HD.out, Hd.out]; simp; omega)⟩
            case measure => simp [intOf]; omega
          | false =>
            have Hd := Lib.hid hd
            have HZ : Hid (n = p + runL digitsL (s.data.toList.drop (p))) := Lib.hid (by rw [← HR.out, HD.out, hd]; simp)
            clear hd
            by_cases h0 : runL digitsL (s.data.toList.drop (p)) = 0
            · have k5 : ((n : Int) == (p : Int)) = true := by rw [beq_iff_eq]; have := HZ.out; omega
              have HV : Hid (numLenL (s.data.toList.drop p) = 0) := Lib.hid (by rw [HN.out, if_pos h0])
              clear h0
              go_wp2_with fail
              refine (digit_is false _ _ Hd.out).mono ?_
              rintro e w1 ⟨rfl, rfl⟩
              go_wp2_with fail
              go_ret
              exact ⟨ret_int (by rw [HV.out]; rfl), rfl⟩
            · have k5 : ((n : Int) == (p : Int)) = false := by rw [beq_eq_false_iff_ne]; have := HZ.out; omega
              have HV : Hid (numLenL (s.data.toList.drop p) + p = n) := Lib.hid (by rw [HN.out, if_neg h0]; have := HZ.out; omega)
              clear h0
              go_wp2_with fail
              refine (digit_is false _ _ Hd.out).mono ?_
              rintro e w1 ⟨rfl, rfl⟩
              go_wp2_with fail
              go_ret
              exact ⟨ret_int (by have := HV.out; omega), rfl⟩
        · have HZ : Hid (n = p + runL digitsL (s.data.toList.drop (p))) := Lib.hid (by
            have hne : n = s.size := by omega
            have h1 := HR.out
            rw [hne, runL_end] at h1
            omega)
          by_cases h0 : runL digitsL (s.data.toList.drop (p)) = 0
          · have k5 : ((n : Int) == (p : Int)) = true := by rw [beq_iff_eq]; have := HZ.out; omega
            have HV : Hid (numLenL (s.data.toList.drop p) = 0) := Lib.hid (by rw [HN.out, if_pos h0])
            clear h0
            go_wp2_with fail
            go_ret
            exact ⟨ret_int (by rw [HV.out]; rfl), rfl⟩
          · have k5 : ((n : Int) == (p : Int)) = false := by rw [beq_eq_false_iff_ne]; have := HZ.out; omega
            have HV : Hid (numLenL (s.data.toList.drop p) + p = n) := Lib.hid (by rw [HN.out, if_neg h0]; have := HZ.out; omega)
            clear h0
            go_wp2_with fail
            go_ret
            exact ⟨ret_int (by have := HV.out; omega), rfl⟩
  · have hge : decide (p < s.size) = false := decide_eq_false hlt
    have hlti : (s.size : Int) ≤ (p : Int) := by omega
    have hpe : p = s.size := by omega
    have HN := Lib.hid (numLen_plain s p (by rw [hpe]; exact pre_end s 45))
    clear hpe
    go_wp2_with fail
    go_loop [5] (fun v5 => ∃ n : Nat, v5 = .int .i64 (n : Int) ∧ n ≤ s.size ∧ p ≤ n ∧ Hid (n + runL digitsL (s.data.toList.drop n) = p + runL digitsL (s.data.toList.drop (p)))) (fun v5 => s.size - (intOf v5).toNat)
    case atStart => exact ⟨p, by go_num, by omega, by omega, Lib.hid rfl⟩
    case round =>
      obtain ⟨n, rfl, hn, hpn, HR⟩ := hrel
      by_cases hlt2 : n < s.size
      · have hlti2 : (n : Int) < s.size := by omega
        have HD := Lib.hid (runL_drop digitsL s n hlt2)
        cases hd : digitsL.contains (s[n]'hlt2) with
        | true =>
          have Hd := Lib.hid hd
          clear hd
          go_wp2_with fail
          refine (digit_is true _ _ Hd.out).mono ?_
          rintro e w1 ⟨rfl, rfl⟩
          go_wp2_with fail
          go_round
          case rel => exact ⟨n + 1, by go_num, by omega, by omega, Lib.hid (by rw [← HR.out, HD.out, Hd.out]; simp; omega)⟩
          case measure => simp [intOf]; omega
        | false =>
          have Hd := Lib.hid hd
          have HZ : Hid (n = p + runL digitsL (s.data.toList.drop (p))) := Lib.hid (by rw [← HR.out, HD.out, hd]; simp)
          clear hd
          by_cases h0 : runL digitsL (s.data.toList.drop (p)) = 0
          · have k5 : ((n : Int) == (p : Int)) = true := by rw [beq_iff_eq]; have := HZ.out; omega
            have HV : Hid (numLenL (s.data.toList.drop p) = 0) := Lib.hid (by rw [HN.out, if_pos h0])
            clear h0
            go_wp2_with fail
            refine (digit_is false _ _ Hd.out).mono ?_
            rintro e w1 ⟨rfl, rfl⟩
            go_wp2_with fail
            go_ret
            exact ⟨ret_int (by rw [HV.out]; rfl), rfl⟩
          · have k5 : ((n : Int) == (p : Int)) = false := by rw [beq_eq_false_iff_ne]; have := HZ.out; omega
            have HV : Hid (numLenL (s.data.toList.drop p) + p = n) := Lib.hid (by rw [HN.out, if_neg h0]; have := HZ.out; omega)
            clear h0
            go_wp2_with fail
            refine (digit_is false _ _ Hd.out).mono ?_
            rintro e w1 ⟨rfl, rfl⟩
            go_wp2_with fail
            go_ret
            exact ⟨ret_int (by have := HV.out; omega), rfl⟩
      · have HZ : Hid (n = p + runL digitsL (s.data.toList.drop (p))) := Lib.hid (by
          have hne : n = s.size := by omega
          have h1 := HR.out
          rw [hne, runL_end] at h1
          omega)
        by_cases h0 : runL digitsL (s.data.toList.drop (p)) = 0
        · have k5 : ((n : Int) == (p : Int)) = true := by rw [beq_iff_eq]; have := HZ.out; omega
          have HV : Hid (numLenL (s.data.toList.drop p) = 0) := Lib.hid (by rw [HN.out, if_pos h0])
          clear h0
          go_wp2_with fail
          go_ret
          exact ⟨ret_int (by rw [HV.out]; rfl), rfl⟩
        · have k5 : ((n : Int) == (p : Int)) = false := by rw [beq_eq_false_iff_ne]; have := HZ.out; omega
          have HV : Hid (numLenL (s.data.toList.drop p) + p = n) := Lib.hid (by rw [HN.out, if_neg h0]; have := HZ.out; omega)
          clear h0
          go_wp2_with fail
          go_ret
          exact ⟨ret_int (by have := HV.out; omega), rfl⟩
theorem bneT {c : UInt8} {n : Nat} (hn : n < 256) (h : ¬ c = UInt8.ofNat n) : ((c.toNat : Int) != (n : Int)) = true := by rw [bne, bneN hn h]; rfl
theorem numB_minus (r : List UInt8) : numB (45 :: r) = numT r true := by simp [numB, Lib.trimPrefix, Lib.hasPrefix]
theorem numB_other {c : UInt8} (r : List UInt8) (h : c ≠ 45) : numB (c :: r) = numT (c :: r) false := by
  unfold numB; rw [(trim_ne h).1, (trim_ne h).2]
theorem numLen_45 (r : List UInt8) : numLenL (45 :: r) = if runL digitsL r = 0 then 0 else 1 + runL digitsL r := by simp [numLenL, Lib.hasPrefix]
theorem numLen_c {c : UInt8} (r : List UInt8) (h : c ≠ 45) : numLenL (c :: r) = runL digitsL (c :: r) := by
  unfold numLenL
  rw [(trim_ne h).2]
  simp
  exact fun h => h.symm
theorem num_bad {l : List UInt8} (h0 : l ≠ []) (h : numLenL l ≠ l.length) : numB l = false := by
  cases l with
  | nil => exact absurd rfl h0
  | cons c r =>
    by_cases hc : c = 45
    · subst hc
      rw [numLen_45] at h
      rw [numB_minus]
      unfold numT
      by_cases hr : r = []
      · rw [if_pos hr]
      · rw [if_neg hr]
        by_cases hd : runL digitsL r ≠ r.length
        · rw [if_pos hd]
        · exfalso
          have hd : runL digitsL r = r.length := by omega
          have := List.length_pos_iff.2 hr
          rw [if_neg (by omega), hd, List.length_cons] at h
          omega
    · rw [numLen_c r hc] at h
      rw [numB_other r hc]
      unfold numT
      rw [if_neg (by simp), if_pos h]
theorem num_minus {r : List UInt8} (h : numLenL (45 :: r) = (45 :: r).length) : ∃ d q, r = d :: q ∧ numB (45 :: r) = decide (d ≠ 48) := by
  rw [numLen_45, List.length_cons] at h
  split at h
  · omega
  · rename_i h0
    cases r with
    | nil => simp [runL_nil] at h0
    | cons d q =>
      refine ⟨d, q, rfl, ?_⟩
      rw [numB_minus]
      unfold numT
      rw [if_neg (by simp), if_neg (by omega)]
      by_cases hd : d = 48
      · subst hd; simp
      · simp [hd]
theorem num_plain {c : UInt8} {r : List UInt8} (hc : c ≠ 45) (h : numLenL (c :: r) = (c :: r).length) : numB (c :: r) = (decide (c :: r = [48]) || decide (c ≠ 48)) := by
  rw [numLen_c r hc] at h
  rw [numB_other r hc]
  unfold numT
  rw [if_neg (by simp), if_neg (by omega)]
  by_cases hd : c = 48
  · subst hd; simp
  · simp [hd]
theorem data_cons (s : ByteArray) (h : 0 < s.size) : s.data.toList = (s[0]'h) :: s.data.toList.drop 1 := by
  have := drop_at s 0 h
  simpa using this

set_option maxRecDepth 100000 in
set_option maxHeartbeats 2000000 in
theorem RefNumber_calls (s : ByteArray) (w : World) (hs : s.size ≤ 1000000) :
    Calls Tryd.prog 24 #[.string s] w fun e w' => e = .returned (.bool (numB s.data.toList)) ∧ w = w' := by
  go_enter Tryd.func24, Tryd.ntmps24
  by_cases hnil : s.toList = []
  · have Hnil := Lib.hid hnil
    go_wp2_with fail
    go_ret
    exact ⟨ret_bool (by rw [← tl_data, Hnil.out]; rfl), rfl⟩
  · have h0 := tl_pos hnil
    have hE : s.toList.isEmpty = false := by rw [List.isEmpty_eq_false_iff]; exact hnil
    have hc := data_cons s h0
    have hL : Hid (¬ s.data.toList = []) := Lib.hid (by rw [← tl_data]; exact hnil)
    have hnum := number_ref s 0 w hs (by omega)
    rw [List.drop_zero] at hnum
    obtain ⟨n, hn⟩ : ∃ n, numLenL s.data.toList = n := ⟨_, rfl⟩
    rw [hn] at hnum
    by_cases hns : n = s.size
    · have k1 : ((n : Int) != (s.size : Int)) = false := by simp [hns]
      have hlen : numLenL s.data.toList = s.data.toList.length := by rw [hn, hns, Lib.size_eq]
      have h0i : (0 : Int) < (s.size : Int) := by omega
      by_cases h45 : s[0]'h0 = 45
      · rw [hc, h45] at hlen
        obtain ⟨d, q, hr, hV⟩ := num_minus hlen
        have h1 : 1 < s.size := by
          have := congrArg List.length hr
          rw [List.length_drop, List.length_cons, ← Lib.size_eq] at this
          omega
        have hd : s[1]'h1 = d := by
          have := drop_at s 1 h1
          rw [hr] at this
          injection this with e _
          exact e.symm
        have HV : Hid (numB s.data.toList = decide (d ≠ 48)) := Lib.hid (by rw [hc, h45]; exact hV)
        have HC := Lib.hid hnum
        have h1i : (1 : Int) < (s.size : Int) := by omega
        have k2 : (((s[0]'h0).toNat : Int) == 45) = true := beqN (n := 45) (by decide) h45
        by_cases h48 : d = 48
        · have k3 : (((s[1]'h1).toNat : Int) != 48) = false := by rw [hd, h48]; rfl
          have H48 := Lib.hid h48
          clear hc hn hns hlen h45 hr hV hd h48 hnum
          go_wp2_with fail
          refine HC.out.mono ?_
          rintro e w1 ⟨rfl, rfl⟩
          go_wp2_with fail
          go_ret
          exact ⟨ret_bool (by rw [HV.out, H48.out]; rfl), rfl⟩
        · have k3 : (((s[1]'h1).toNat : Int) != 48) = true := by rw [hd]; exact bneT (n := 48) (by decide) h48
          have H48 := Lib.hid h48
          clear hc hn hns hlen h45 hr hV hd h48 hnum
          go_wp2_with fail
          refine HC.out.mono ?_
          rintro e w1 ⟨rfl, rfl⟩
          go_wp2_with fail
          go_ret
          exact ⟨ret_bool (by rw [HV.out, decide_eq_true H48.out]), rfl⟩
      · have k2 : (((s[0]'h0).toNat : Int) == 45) = false := bneN (n := 45) (by decide) h45
        have HV : Hid (numB s.data.toList = (decide (s.data.toList = [48]) || decide (s[0]'h0 ≠ 48))) := Lib.hid (by rw [hc] at hlen ⊢; exact num_plain h45 hlen)
        have HC := Lib.hid hnum
        by_cases he : s.toList = [48]
        · have HE : Hid (s.data.toList = [48]) := Lib.hid (by rw [← tl_data]; exact he)
          have k4 : (s.toList == [48]) = true := by rw [he]; rfl
          clear hc hn hns hlen h45 hnum he
          go_wp2_with fail
          refine HC.out.mono ?_
          rintro e w1 ⟨rfl, rfl⟩
          go_wp2_with fail
          go_ret
          exact ⟨ret_bool (by rw [HV.out, decide_eq_true HE.out]; rfl), rfl⟩
        · have HE : Hid (¬ s.data.toList = [48]) := Lib.hid (by rw [← tl_data]; exact he)
          have k4 : (s.toList == [48]) = false := by rw [beq_eq_false_iff_ne]; exact he
          obtain ⟨b, hb⟩ : ∃ b, (((s[0]'h0).toNat : Int) != 48) = b := ⟨_, rfl⟩
          have HB : Hid (decide (s[0]'h0 ≠ 48) = b) := Lib.hid (by
            rw [← hb]
            by_cases h48 : s[0]'h0 = 48
            · rw [h48]; rfl
            · rw [decide_eq_true h48]; exact (bneT (n := 48) (by decide) h48).symm)
          clear hc hn hns hlen h45 hnum he
          go_wp2_with fail
          refine HC.out.mono ?_
          rintro e w1 ⟨rfl, rfl⟩
          go_wp2_with fail
          go_ret
          exact ⟨ret_bool (by rw [HV.out, decide_eq_false HE.out, HB.out, Bool.false_or]), rfl⟩
    · have k1 : ((n : Int) != (s.size : Int)) = true := by simp; omega
      have HV := Lib.hid (num_bad hL.out (by rw [hn, ← Lib.size_eq]; exact hns))
      have HC := Lib.hid hnum
      clear hc hn hns hnum
      go_wp2_with fail
      refine HC.out.mono ?_
      rintro e w1 ⟨rfl, rfl⟩
      go_wp2_with fail
      go_ret
      exact ⟨ret_bool (by rw [HV.out]), rfl⟩
set_option maxHeartbeats 2000000 in
theorem RefName_calls (s : ByteArray) (w : World) (hs : s.size ≤ 1000000) :
    Calls Tryd.prog 23 #[.string s] w fun e w' => e = .returned (.bool (nameB s.data.toList)) ∧ w = w' := by
  go_enter Tryd.func23, Tryd.ntmps23
  by_cases hnil : s.toList = []
  · have Hnil := Lib.hid hnil
    go_wp2_with fail
    go_ret
    exact ⟨ret_bool (by rw [← tl_data, Hnil.out]; rfl), rfl⟩
  · have Hnil := Lib.hid (show ¬ s.data.toList = [] by rw [← tl_data]; exact hnil)
    have hname := name_ref s 0 w hs (by omega)
    rw [List.drop_zero] at hname
    obtain ⟨n, hn⟩ : ∃ n, namedL s.data.toList = n := ⟨_, rfl⟩
    rw [hn] at hname
    have HN := Lib.hid hn
    have HC := Lib.hid hname
    clear hn hname
    go_wp2_with fail
    refine HC.out.mono ?_
    rintro e w1 ⟨rfl, rfl⟩
    go_wp2_with fail
    go_ret
    refine ⟨ret_bool ?_, rfl⟩
    unfold nameB
    rw [if_neg Hnil.out, HN.out, ← Lib.size_eq]
    have he : s.toList.isEmpty = false := by rw [List.isEmpty_eq_false_iff]; exact hnil
    rw [he]
    simp only [Bool.not_false, Bool.true_and]
    rw [Bool.eq_iff_iff]; simp; omega
end Go.Proofs.YtndejiminaopeaaDoor
