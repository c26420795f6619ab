/- lex.Number, lex.named, lex.Name, lex.escape by their contracts. -/
import Derived.Test.YtndejiminaopeaaDoorRun
import Derived.Test.YtndejiminaopeaaDoorSpec
import Derived.Test.YtndejiminaopeaaDoorShelf
namespace Go.Proofs.YtndejiminaopeaaDoor
open Go.RowKit

theorem run_any (s set : ByteArray) (w : World) (hs : s.size ≤ 9223372036854775807) (hset : ∀ b ∈ set.data.toList, b.toNat < 128) :
    Calls Tryd.prog 32 #[.string s, .string set] w fun e w' => ∃ n : Nat, e = .returned (.int .i64 n) ∧ n ≤ s.size ∧ Hid (n = runL set.data.toList s.data.toList) ∧ Below w.heap.size w w' :=
  (run_calls s set w hs hset).mono fun _ _ ⟨h1, h2⟩ => ⟨_, h1, runl_le s set, Lib.hid rfl, h2⟩
theorem CutPrefix_any (s p : ByteArray) (w : World) :
    Calls Tryd.prog 31 #[.string s, .string p] w fun e w' => ∃ (t : ByteArray) (m : Bool), e = .returned (.tuple #[.string t, .bool m]) ∧ t.size ≤ s.size ∧ Hid (t.data.toList = Lib.trimPrefix s.data.toList p.data.toList) ∧ Hid (m = Lib.hasPrefix s.data.toList p.data.toList) ∧ w = w' :=
  (Tryd.strings_CutPrefix s p w).mono fun _ _ ⟨h1, h2⟩ => ⟨_, _, h1, by rw [Lib.size_eq, Lib.size_eq]; exact Lib.trimPrefix_le _ _, Lib.hid rfl, Lib.hid rfl, h2.symm⟩
theorem HasPrefix_any (s p : ByteArray) (w : World) :
    Calls Tryd.prog 50 #[.string s, .string p] w fun e w' => ∃ m : Bool, e = .returned (.bool m) ∧ Hid (m = Lib.hasPrefix s.data.toList p.data.toList) ∧ w = w' :=
  (Tryd.strings_HasPrefix s p w).mono fun _ _ ⟨h1, h2⟩ => ⟨_, h1, Lib.hid rfl, h2.symm⟩

theorem low_digits : ∀ b ∈ (⟨#[48, 49, 50, 51, 52, 53, 54, 55, 56, 57]⟩ : ByteArray).data.toList, b.toNat < 128 := by decide

theorem num1 {t : ByteArray} {m : Bool} (h : t.toList = []) : numT t.data.toList m = false := by rw [← tl_data, h]; rfl
theorem num2 {t : ByteArray} {m : Bool} {n : Nat} (h : ¬ t.toList = []) (h2 : t.toList.isEmpty = true ∨ ((n : Int) != (t.size : Int)) = true) (Hr : n = runL digitsL t.data.toList) : numT t.data.toList m = false := by
  rw [tl_data] at h h2
  have h3 : runL digitsL t.data.toList ≠ t.data.toList.length := by
    rw [← Hr, ← Lib.size_eq]
    rcases h2 with h2 | h2
    · exact absurd (List.isEmpty_iff.1 h2) h
    · intro e; rw [e] at h2; simp at h2
  unfold numT
  rw [if_neg h, if_pos h3]
theorem num3 {t : ByteArray} {m : Bool} {n : Nat} (h : ¬ t.toList = []) (h2 : t.toList.isEmpty = false ∧ ((n : Int) != (t.size : Int)) = false) (Hr : n = runL digitsL t.data.toList) :
    numT t.data.toList m = if t.data.toList.head? ≠ some 48 then true else decide (t.data.toList = [48]) && !m := by
  rw [tl_data] at h h2
  have h3 : ¬ (runL digitsL t.data.toList ≠ t.data.toList.length) := by
    rw [← Hr, ← Lib.size_eq]
    have := h2.2
    simp at this; omega
  unfold numT
  rw [if_neg h, if_neg h3]
theorem u8_of_int {a b : UInt8} (h : (a.toNat : Int) = (b.toNat : Int)) : a = b := UInt8.toNat_inj.1 (by omega)
theorem Number_calls (s : ByteArray) (w : World) (hs : s.size ≤ 9223372036854775807) :
    Calls Tryd.prog 19 #[.string s] w fun e w' => e = .returned (.bool (numB s.data.toList)) ∧ Below w.heap.size w w' := by
  have Hn : Hid (numB s.data.toList = numT (Lib.trimPrefix s.data.toList [45]) (Lib.hasPrefix s.data.toList [45])) := rfl
  go_enter Tryd.func19, Tryd.ntmps19
  go_wp2_with fail
  refine (CutPrefix_any _ _ _).mono ?_
  rintro e w1 ⟨t, m, rfl, hts, Ht, Hm, rfl⟩
  go_wp2_with (go_at_call 32; refine (run_any _ _ _ (by omega) low_digits).mono ?_; rintro e w2 ⟨n, rfl, hn, Hr, hb2⟩)
  · go_ret
    exact ⟨ret_bool (by rw [Hn.out, ← Ht.out]; exact (num1 (by assumption)).symm), Below.refl _ _⟩
  · go_ret
    exact ⟨ret_bool (by rw [Hn.out, ← Ht.out]; exact (num2 (n := n) (by assumption) (by assumption) Hr.out).symm), hb2⟩
  · go_ret
    refine ⟨ret_bool ?_, hb2⟩
    have h48 : t.toList = [48] := by assumption
    rw [tl_data] at h48
    rw [Hn.out, ← Ht.out, num3 (n := n) (by assumption) (by assumption) Hr.out, Hm.out, h48]; rfl
  · go_ret
    refine ⟨ret_bool ?_, hb2⟩
    have h48 : ¬ t.toList = [48] := by assumption
    have hh : ((t[0]'(by assumption)).toNat : Int) = 48 := by assumption
    rw [tl_data] at h48
    rw [Hn.out, ← Ht.out, num3 (n := n) (by assumption) (by assumption) Hr.out, head_at t (by assumption), u8_of_int (b := 48) hh]
    simp [h48]
  · go_ret
    refine ⟨ret_bool ?_, hb2⟩
    have hh : ¬ ((t[0]'(by assumption)).toNat : Int) = 48 := by assumption
    rw [Hn.out, ← Ht.out, num3 (n := n) (by assumption) (by assumption) Hr.out, head_at t (by assumption)]
    rw [if_pos (fun e => hh (by rw [Option.some.inj e]; rfl))]
  · exact absurd (tl_pos (by assumption)) (by assumption)

theorem low_letters : ∀ b ∈ (⟨#[97, 98, 99, 100, 101, 102, 103, 104, 105, 106, 107, 108, 109, 110, 111, 112, 113, 114, 115, 116, 117, 118, 119, 120, 121, 122, 65, 66, 67, 68, 69, 70, 71, 72, 73, 74, 75, 76, 77, 78, 79, 80, 81, 82, 83, 84, 85, 86, 87, 88, 89, 90]⟩ : ByteArray).data.toList, b.toNat < 128 := by decide
theorem low_inner : ∀ b ∈ (⟨#[97, 98, 99, 100, 101, 102, 103, 104, 105, 106, 107, 108, 109, 110, 111, 112, 113, 114, 115, 116, 117, 118, 119, 120, 121, 122, 65, 66, 67, 68, 69, 70, 71, 72, 73, 74, 75, 76, 77, 78, 79, 80, 81, 82, 83, 84, 85, 86, 87, 88, 89, 90, 48, 49, 50, 51, 52, 53, 54, 55, 56, 57, 95]⟩ : ByteArray).data.toList, b.toNat < 128 := by decide

theorem named_calls (s : ByteArray) (w : World) (hs : s.size ≤ 9223372036854775800) :
    Calls Tryd.prog 30 #[.string s] w fun e w' => e = .returned (.int .i64 (namedL s.data.toList : Nat)) ∧ Below w.heap.size w w' := by
  go_enter Tryd.func30, Tryd.ntmps30
  by_cases hnil : s.toList = []
  · have Hnil := Lib.hid hnil
    go_wp2_with fail
    go_ret
    exact ⟨ret_int (by rw [← tl_data, Hnil.out]; rfl), Below.refl _ _⟩
  · have h1 : 1 ≤ (s.size : Int) := by have := tl_pos hnil; omega
    have hx : (s.extract 0 1).size ≤ 1 := by rw [extract_bs, bs_size, List.length_take]; omega
    go_wp2_with fail
    refine (run_any _ _ _ (by omega) low_letters).mono ?_
    rintro e w1 ⟨n, rfl, hn, Hn, hb1⟩
    have Hs0 : Hid (n = runL lettersL (s.data.toList.take 1)) := Lib.hid (by rw [Hn.out, ext_to]; rfl)
    have hnil' : ¬ s.data.toList = [] := by rw [← tl_data]; exact hnil
    have Hnil := Lib.hid hnil'
    clear Hn hnil'
    go_wp2_with fail
    · go_ret
      refine ⟨ret_int ?_, hb1⟩
      have h2 : s.toList.isEmpty = true ∨ ((n : Int) == 0) = true := by assumption
      have h3 : n = 0 := by
        rcases h2 with h2 | h2
        · exact absurd (List.isEmpty_iff.1 h2) hnil
        · simp at h2; omega
      unfold namedL
      rw [if_neg Hnil.out, if_pos (by rw [← Hs0.out, h3])]; rfl
    · refine (run_any _ _ _ (by omega) low_inner).mono ?_
      rintro e w2 ⟨m, rfl, hm, Hm, hb2⟩
      go_wp2_with (go_at_call 50; refine (HasPrefix_any _ _ _).mono ?_; rintro e w3 ⟨q, rfl, Hq, rfl⟩)
      all_goals
        go_ret
        refine ⟨ret_int ?_, hb1.trans (hb2.mono hb1.size)⟩
        have h2 : s.toList.isEmpty = false ∧ ((n : Int) == 0) = false := by assumption
        have hn0 : n ≠ 0 := by have := h2.2; simp at this; omega
        have hq := Hq.out
        rw [ext_from] at hq
        have hm' : m = runL innerL s.data.toList := Hm.out
        unfold namedL
        rw [if_neg Hnil.out, if_neg (by rw [← Hs0.out]; exact hn0), ← hm']
        have hqq : q = Lib.hasPrefix (s.data.toList.drop m) [63] := hq
      · rw [← hqq, if_pos (by assumption)]; rfl
      · rw [← hqq, if_neg (by simp_all)]

theorem namedL_le (l : List UInt8) : namedL l ≤ l.length := by
  have h := runL_le innerL l
  unfold namedL
  split
  · omega
  · split
    · omega
    · split
      · rename_i hp
        have : 0 < (l.drop (runL innerL l)).length := by
          cases hd : l.drop (runL innerL l) with
          | nil => rw [hd] at hp; simp [Lib.hasPrefix] at hp
          | cons a r => simp
        rw [List.length_drop] at this
        omega
      · exact h
theorem named_any (s : ByteArray) (w : World) (hs : s.size ≤ 9223372036854775800) :
    Calls Tryd.prog 30 #[.string s] w fun e w' => ∃ n : Nat, e = .returned (.int .i64 n) ∧ n ≤ s.size ∧ Hid (n = namedL s.data.toList) ∧ Below w.heap.size w w' :=
  (named_calls s w hs).mono fun _ _ ⟨h1, h2⟩ => ⟨_, h1, by rw [Lib.size_eq]; exact namedL_le _, Lib.hid rfl, h2⟩

theorem Name_calls (s : ByteArray) (w : World) (hs : s.size ≤ 9223372036854775800) :
    Calls Tryd.prog 18 #[.string s] w fun e w' => e = .returned (.bool (nameB s.data.toList)) ∧ Below w.heap.size w w' := by
  go_enter Tryd.func18, Tryd.ntmps18
  by_cases hnil : s.toList = []
  · have Hnil := Lib.hid hnil
    go_wp2_with fail
    go_ret
    exact ⟨ret_bool (by rw [← tl_data, Hnil.out]; rfl), Below.refl _ _⟩
  · have Hnil := Lib.hid (show ¬ s.data.toList = [] by rw [← tl_data]; exact hnil)
    go_wp2_with fail
    refine (named_any _ _ hs).mono ?_
    rintro e w1 ⟨n, rfl, hn, Hn, hb1⟩
    go_wp2_with fail
    go_ret
    refine ⟨ret_bool ?_, hb1⟩
    unfold nameB
    rw [if_neg Hnil.out, ← Hn.out, ← Lib.size_eq]
    have he : s.toList.isEmpty = false := by rw [List.isEmpty_eq_false_iff]; exact hnil
    rw [he]
    simp only [Bool.not_false, Bool.true_and]
    rw [Bool.eq_iff_iff]; simp; omega
end Go.Proofs.YtndejiminaopeaaDoor
