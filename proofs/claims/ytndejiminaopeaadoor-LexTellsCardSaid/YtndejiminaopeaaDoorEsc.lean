/- lex.escape by its contract. -/
import Derived.Test.YtndejiminaopeaaDoorSmall
import Derived.Deep.QuietTactic
import Derived.BigQuiet
namespace Go.Proofs.YtndejiminaopeaaDoor
open Go.RowKit

theorem low_small : ∀ b ∈ (⟨#[48, 49, 50, 51, 52, 53, 54, 55, 56, 57, 97, 98, 99, 100, 101, 102]⟩ : ByteArray).data.toList, b.toNat < 128 := by decide
theorem IndexByte_any (s : ByteArray) (c : UInt8) (w : World) :
    Calls Tryd.prog 84 #[.string s, .int .u8 (c.toNat : Int)] w fun e w' => e = .returned (.int .i64 (Lib.indexByte s.data.toList c)) ∧ w' = w :=
  (Tryd.strings_IndexByte s c.toNat w).mono fun _ _ ⟨h1, h2⟩ => ⟨by rw [h1]; congr 3; simp, h2⟩

theorem beqU {a : UInt8} {n : Nat} (hn : n < 256) : ((a.toNat : Int) == (n : Int)) = decide (a = UInt8.ofNat n) := by
  rw [Bool.eq_iff_iff]; simp only [beq_iff_eq, decide_eq_true_eq]
  constructor
  · intro h; apply UInt8.toNat_inj.1; simp; omega
  · rintro rfl; simp; omega

theorem escL_ne (s : ByteArray) (h : 0 < s.size) : escL s.data.toList =
    if s[0] = 110 then (10, 1) else if s[0] = 34 then (34, 1) else if s[0] = 92 then (92, 1) else
    if s[0] = 120 then (if h2 : 2 < s.size then if runL smallL [s[1], s[2]] = 2 then (16 * hexAt s[1] + hexAt s[2], 3) else (0, 0) else (0, 0)) else (0, 0) := by
  obtain ⟨⟨l⟩⟩ := s
  have hh : 0 < l.length := h
  cases l with
  | nil => simp at hh
  | cons c r =>
    show escL (c :: r) = _
    have e0 : (⟨⟨c :: r⟩⟩ : ByteArray)[0] = c := rfl
    simp only [e0]
    cases r with
    | nil => simp [escL, ByteArray.size]
    | cons a r =>
      cases r with
      | nil => simp [escL, ByteArray.size]
      | cons b r =>
        have hsz : 2 < (⟨⟨c :: a :: b :: r⟩⟩ : ByteArray).size := by show 2 < (c :: a :: b :: r).length; simp
        rw [dif_pos hsz]
        rfl

theorem ext_two (s : ByteArray) (h : 2 < s.size) : (s.extract 1 3).data.toList = [s[1], s[2]] := by
  rw [ext_mid]
  obtain ⟨⟨l⟩⟩ := s
  match l, h with
  | a :: b :: c :: r, _ => rfl
theorem or_small : ∀ a ∈ smallL, ∀ b ∈ smallL, bits BinOp.or IntKind.i64 (wrap64 (Lib.indexByte smallL a * 16)) (Lib.indexByte smallL b) % 256 = ((16 * hexAt a + hexAt b : Nat) : Int) := by decide +kernel
theorem two_small {a b : UInt8} (h : runL smallL [a, b] = 2) : a ∈ smallL ∧ b ∈ smallL := by
  unfold runL at h
  simp only [List.takeWhile_cons] at h
  by_cases ha : smallL.contains a = true
  · rw [if_pos ha] at h
    by_cases hb : smallL.contains b = true
    · exact ⟨List.contains_iff_mem.1 ha, List.contains_iff_mem.1 hb⟩
    · rw [if_neg hb] at h; simp at h
  · rw [if_neg ha] at h; simp at h
theorem escape_calls (s : ByteArray) (w : World) (hs : s.size ≤ 9223372036854775800) :
    Calls Tryd.prog 80 #[.string s] w fun e w' => e = .returned (.tuple #[.int .u8 ((escL s.data.toList).1 : Nat), .int .i64 ((escL s.data.toList).2 : Nat)]) ∧ Below w.heap.size w w' := by
  by_cases hnil : s.toList = []
  · have Hnil := Lib.hid hnil
    go_enter Tryd.func80, Tryd.ntmps80
    go_wp2_with fail
    go_ret2
    rw [← tl_data, Hnil.out]
    exact ⟨rfl, Below.refl _ _⟩
  · have h1 : 0 < s.size := tl_pos hnil
    have He := Lib.hid (escL_ne s h1)
    have h1i : 1 ≤ (s.size : Int) := by omega
    have hnil' : s.toList.isEmpty = false := by rw [List.isEmpty_eq_false_iff]; exact hnil
    have k110 : (((s[0]'h1).toNat : Int) == 110) = decide (s[0]'h1 = 110) := beqU (by decide)
    have k34 : (((s[0]'h1).toNat : Int) == 34) = decide (s[0]'h1 = 34) := beqU (by decide)
    have k92 : (((s[0]'h1).toNat : Int) == 92) = decide (s[0]'h1 = 92) := beqU (by decide)
    have k120 : (((s[0]'h1).toNat : Int) == 120) = decide (s[0]'h1 = 120) := beqU (by decide)
    by_cases c1 : s[0]'h1 = 110
    · rw [decide_eq_true c1] at k110
      clear k34 k92 k120
      have C1 := Lib.hid c1; clear c1
      go_enter Tryd.func80, Tryd.ntmps80
      go_wp2_with fail
      go_ret2
      rw [He.out, if_pos C1.out]
      exact ⟨rfl, Below.refl _ _⟩
    rw [decide_eq_false c1] at k110
    by_cases c2 : s[0]'h1 = 34
    · rw [decide_eq_true c2] at k34
      clear k92 k120
      have C1 := Lib.hid c1; clear c1
      have C2 := Lib.hid c2; clear c2
      go_enter Tryd.func80, Tryd.ntmps80
      go_wp2_with fail
      go_ret2
      rw [He.out, if_neg C1.out, if_pos C2.out]
      refine ⟨?_, Below.refl _ _⟩
      show Ending.returned (.tuple #[.int .u8 ((s[0]'h1).toNat : Int), .int .i64 1]) = _
      rw [C2.out]; rfl
    rw [decide_eq_false c2] at k34
    by_cases c3 : s[0]'h1 = 92
    · rw [decide_eq_true c3] at k92
      clear k120
      have C1 := Lib.hid c1; clear c1
      have C2 := Lib.hid c2; clear c2
      have C3 := Lib.hid c3; clear c3
      go_enter Tryd.func80, Tryd.ntmps80
      go_wp2_with fail
      go_ret2
      rw [He.out, if_neg C1.out, if_neg C2.out, if_pos C3.out]
      refine ⟨?_, Below.refl _ _⟩
      show Ending.returned (.tuple #[.int .u8 ((s[0]'h1).toNat : Int), .int .i64 1]) = _
      rw [C3.out]; rfl
    rw [decide_eq_false c3] at k92
    have C1 := Lib.hid c1; clear c1
    have C2 := Lib.hid c2; clear c2
    have C3 := Lib.hid c3; clear c3
    have He2 : Hid (escL s.data.toList = if s[0]'h1 = 120 then (if h2 : 2 < s.size then if runL smallL [s[1], s[2]] = 2 then (16 * hexAt s[1] + hexAt s[2], 3) else (0, 0) else (0, 0)) else (0, 0)) :=
      Lib.hid (by rw [He.out, if_neg C1.out, if_neg C2.out, if_neg C3.out])
    by_cases c4 : s[0]'h1 = 120
    · rw [decide_eq_true c4] at k120
      have C4 := Lib.hid c4; clear c4
      by_cases h3 : 2 < s.size
      · have h3i : 3 ≤ (s.size : Int) := by omega
        have hx : (s.extract 1 3).size ≤ 2 := by rw [extract_bs, bs_size, List.length_take]; omega
        have Hx2 := Lib.hid (ext_two s h3)
        go_enter Tryd.func80, Tryd.ntmps80
        go_wp2_with fail
        refine (run_any _ _ _ (by omega) low_small).mono ?_
        rintro e w1 ⟨n, rfl, hn, Hn, hb1⟩
        by_cases hn2 : ((n : Int) == 2) = true
        · have h12 : 1 < s.size := by omega
          have h12i : (1 : Int) < s.size := by omega
          have h22i : (2 : Int) < s.size := by omega
          go_wp2_with fail
          go_quiet ((go_at_call 84; exact Calls.quiet_of_same (IndexByte_any _ _ _)))
          go_wp2_with fail
          go_ret2
          have hr : n = runL smallL [s[1], s[2]] := by rw [Hn.out, Hx2.out]; rfl
          have hr2 : runL smallL [s[1], s[2]] = 2 := by rw [← hr]; exact beq_int hn2
          rw [He2.out, if_pos C4.out, dif_pos h3, if_pos hr2]
          refine ⟨?_, below_drewN hb1 _⟩
          show Ending.returned (.tuple #[.int .u8 (bits BinOp.or IntKind.i64 (wrap64 (Lib.indexByte smallL s[1] * 16)) (Lib.indexByte smallL s[2]) % 256), .int .i64 3]) = _
          rw [or_small _ (two_small hr2).1 _ (two_small hr2).2]
          rfl
        · have hn3 : ((n : Int) == 2) = false := by simpa using hn2
          go_wp2_with fail
          go_ret2
          have hr : n = runL smallL [s[1], s[2]] := by rw [Hn.out, Hx2.out]; rfl
          rw [He2.out, if_pos C4.out, dif_pos h3, if_neg (by rw [← hr]; exact beq_int' hn3)]
          exact ⟨rfl, hb1⟩
      · have h3i : (s.size : Int) < 3 := by omega
        go_enter Tryd.func80, Tryd.ntmps80
        go_wp2_with fail
        go_ret2
        rw [He2.out, if_pos C4.out, dif_neg h3]
        exact ⟨rfl, Below.refl _ _⟩
    · rw [decide_eq_false c4] at k120
      have C4 := Lib.hid c4; clear c4
      go_enter Tryd.func80, Tryd.ntmps80
      go_wp2_with fail
      go_ret2
      rw [He2.out, if_neg C4.out]
      exact ⟨rfl, Below.refl _ _⟩
end Go.Proofs.YtndejiminaopeaaDoor
