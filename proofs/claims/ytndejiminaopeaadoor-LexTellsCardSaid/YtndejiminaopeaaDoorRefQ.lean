/- litmusref05.Quote and Laid by their contracts. -/
import Derived.Test.YtndejiminaopeaaDoorQuotePlain
import Derived.Test.YtndejiminaopeaaDoorBackPlain
import Derived.Test.YtndejiminaopeaaDoorQuote
namespace Go.Proofs.YtndejiminaopeaaDoor
open Go.RowKit

theorem bs_cat (x y : List UInt8) : bs x ++ (⟨y.toArray⟩ : ByteArray) = bs (x ++ y) := by
  have h : (bs x ++ (⟨y.toArray⟩ : ByteArray)).data.toList = x ++ y := by simp [bs]
  rw [← bs_data (bs x ++ _), h]
theorem cat_bs (o y z : ByteArray) : o ++ y ++ z = o ++ (⟨(y.data.toList ++ z.data.toList).toArray⟩ : ByteArray) := by
  have h : y ++ z = (⟨(y.data.toList ++ z.data.toList).toArray⟩ : ByteArray) := by
    have h2 : (y ++ z).data.toList = y.data.toList ++ z.data.toList := by simp
    rw [← bs_data (y ++ z), h2]; rfl
  rw [ByteArray.append_assoc, h]
theorem hex_slice (k : Nat) (hk : k < 16) (wx : World) : (Instr.slice 9 (.string ⟨#[48, 49, 50, 51, 52, 53, 54, 55, 56, 57, 97, 98, 99, 100, 101, 102]⟩) (some (.int .u8 (k : Int))) (some (.int .u8 ((k : Int) + 1))) none).run Tryd.prog wx = .ok (.string ⟨#[smallL.getD k 0]⟩) wx := by
  have hn : ((k : Int) + 1).toNat = k + 1 := by omega
  have hb : (⟨#[48, 49, 50, 51, 52, 53, 54, 55, 56, 57, 97, 98, 99, 100, 101, 102]⟩ : ByteArray).size = 16 := rfl
  rw [run_slice_string wx _ _ _ _ _ _ Tryd.underlying9 (by omega) (by omega) (by rw [hb]; omega), hn]
  have : ∀ k, k < 16 → (⟨#[48, 49, 50, 51, 52, 53, 54, 55, 56, 57, 97, 98, 99, 100, 101, 102]⟩ : ByteArray).extract k (k + 1) = ⟨#[smallL.getD k 0]⟩ := by decide +kernel
  simp only [Int.toNat_natCast]
  rw [this k hk]
theorem ret_cat {o y : ByteArray} {l l2 e : List UInt8} {y2 : List UInt8} (ho : bs (34 :: l) = o) (hs : l2 = l ++ e) (he : e = y2) (hy : y.data.toList = y2) : Value.string (o ++ y) = Value.string (bs (34 :: l2)) := by
  have e1 : y = ⟨y2.toArray⟩ := by rw [← bs_data y, hy]; rfl
  rw [← ho, e1, bs_cat, hs, he]
  rfl
theorem ret_cat2 {o y z : ByteArray} {l l2 e : List UInt8} {y2 : List UInt8} (ho : bs (34 :: l) = o) (hs : l2 = l ++ e) (he : e = y2) (hy : y.data.toList ++ z.data.toList = y2) : Value.string (o ++ y ++ z) = Value.string (bs (34 :: l2)) := by
  rw [cat_bs]
  exact ret_cat ho hs he (by simpa using hy)
theorem ret_cat3 {o y z v : ByteArray} {l l2 e : List UInt8} {y2 : List UInt8} (ho : bs (34 :: l) = o) (hs : l2 = l ++ e) (he : e = y2) (hy : y.data.toList ++ z.data.toList ++ v.data.toList = y2) : Value.string (o ++ y ++ z ++ v) = Value.string (bs (34 :: l2)) := by
  rw [cat_bs o y z, cat_bs]
  exact ret_cat ho hs he (by simpa using hy)
set_option maxRecDepth 100000 in
set_option maxHeartbeats 4000000 in
theorem RefQuote_calls (s : ByteArray) (w : World) (hs : s.size ≤ 1000000) :
    Calls Tryd.prog 25 #[.string s] w fun e w' => e = .returned (.string (bs (quoteL s.data.toList))) ∧ Below w.heap.size w w' := by
  go_enter Tryd.func25, Tryd.ntmps25
  go_wp2_with fail
  go_loopw [3, 5] (fun v3 v5 wr => ∃ i : Nat, v3 = .string (bs (34 :: bodyL (s.data.toList.take i))) ∧ v5 = .int .i64 (i : Int) ∧ i ≤ s.size ∧ Hid (Below w.heap.size w wr)) (fun _ v5 _ => s.size - (intOf v5).toNat)
  case atStart => exact ⟨0, rfl, rfl, by omega, Lib.hid (Below.refl _ _)⟩
  case round =>
    obtain ⟨i, rfl, rfl, hi, HB⟩ := hrel
    obtain ⟨o, ho⟩ : ∃ o, bs (34 :: bodyL (s.data.toList.take i)) = o := ⟨_, rfl⟩
    rw [ho]
    have hos : o.size ≤ 4000001 := by
      rw [← ho, bs_size, List.length_cons]
      have := bodyL_len (s.data.toList.take i)
      rw [List.length_take] at this
      omega
    have HO := Lib.hid ho
    clear ho
    by_cases hlt : i < s.size
    · have hlti : (i : Int) < s.size := by omega
      have hlti1 : (i : Int) + 1 ≤ s.size := by omega
      have Hst : Hid (bodyL (s.data.toList.take (i + 1)) = bodyL (s.data.toList.take i) ++ encB (s[i]'hlt)) := Lib.hid (take_enc s i hlt)
      have hnat : ((i : Int) + 1).toNat = i + 1 := by omega
      have hx := ext_one s i hlt
      have hsl : ∀ wx, (Instr.slice 9 (.string s) (some (.int .i64 (i : Int))) (some (.int .i64 ((i : Int) + 1))) none).run Tryd.prog wx = .ok (.string ⟨#[s[i]'hlt]⟩) wx := fun wx => by
        rw [run_slice_string wx _ _ _ _ _ _ Tryd.underlying9 (by omega) (by omega) hlti1, hnat, ← hx]; rfl
      clear hx hnat
      obtain ⟨c, hc⟩ : ∃ c, s[i]'hlt = c := ⟨_, rfl⟩
      rw [hc] at Hst
      by_cases c10 : c = 10
      · have k1 : (((s[i]'hlt).toNat : Int) == 10) = true := by rw [hc, c10]; rfl
        have He : Hid (encB c = [92, 110]) := Lib.hid (by unfold encB; rw [if_pos c10])
        clear c10 hc
        go_wp2_with fail
        exact ⟨⟨i + 1, ret_cat HO.out Hst.out He.out rfl, by go_num, by omega, HB⟩, by simp [intOf]; omega⟩
      · have k1 : (((s[i]'hlt).toNat : Int) == 10) = false := by rw [hc]; exact beq_ne c10
        by_cases c34 : c = 34 ∨ c = 92
        · have He : Hid (encB c = [92, c]) := Lib.hid (by unfold encB; rw [if_neg c10, if_pos c34])
          rcases c34 with c34 | c34
          · have k2 : (((s[i]'hlt).toNat : Int) == 34) = true := by rw [hc, c34]; rfl
            have Hc := Lib.hid hc
            clear c34 hc c10
            rw [← Hc.out] at He
            rw [← Hc.out] at Hst
            go_wp2_with fail
            exact ⟨⟨i + 1, ret_cat2 HO.out Hst.out He.out rfl, by go_num, by omega, HB⟩, by simp [intOf]; omega⟩
          · have k2 : (((s[i]'hlt).toNat : Int) == 34) = false := by rw [hc, c34]; rfl
            have k3 : (((s[i]'hlt).toNat : Int) == 92) = true := by rw [hc, c34]; rfl
            have Hc := Lib.hid hc
            clear c34 hc c10
            rw [← Hc.out] at He
            rw [← Hc.out] at Hst
            go_wp2_with fail
            exact ⟨⟨i + 1, ret_cat2 HO.out Hst.out He.out rfl, by go_num, by omega, HB⟩, by simp [intOf]; omega⟩
        · have k2 : (((s[i]'hlt).toNat : Int) == 34) = false := by rw [hc]; exact beq_ne (fun h => c34 (.inl h))
          have k3 : (((s[i]'hlt).toNat : Int) == 92) = false := by rw [hc]; exact beq_ne (fun h => c34 (.inr h))
          by_cases cp : 32 ≤ c ∧ c ≤ 126
          · have He : Hid (encB c = [c]) := Lib.hid (by unfold encB; rw [if_neg c10, if_neg c34, if_pos cp])
            have k4 : (32 : Int) ≤ ((s[i]'hlt).toNat : Int) := by rw [hc]; have := UInt8.le_iff_toNat_le.1 cp.1; simp at this; omega
            have k5 : ((s[i]'hlt).toNat : Int) ≤ 126 := by rw [hc]; have := UInt8.le_iff_toNat_le.1 cp.2; simp at this; omega
            have Hc := Lib.hid hc
            clear c34 hc c10 cp
            rw [← Hc.out] at He
            rw [← Hc.out] at Hst
            go_wp2_with fail
            exact ⟨⟨i + 1, ret_cat HO.out Hst.out He.out rfl, by go_num, by omega, HB⟩, by simp [intOf]; omega⟩
          · have He : Hid (encB c = [92, 120, smallL.getD (c.toNat / 16) 0, smallL.getD (c.toNat % 16) 0]) := Lib.hid (by unfold encB; rw [if_neg c10, if_neg c34, if_neg cp])
            by_cases clo : c.toNat < 32
            · have k4 : ((s[i]'hlt).toNat : Int) < 32 := by rw [hc]; omega
              have Hc := Lib.hid hc
              obtain ⟨x, hx⟩ : ∃ x : Nat, c.toNat / 16 = x := ⟨_, rfl⟩
              obtain ⟨y, hy⟩ : ∃ y : Nat, c.toNat % 16 = y := ⟨_, rfl⟩
              have hx16 : x < 16 := by have := UInt8.toNat_lt c; omega
              have hy16 : y < 16 := by omega
              have q1 : IntKind.u8.wrap (((s[i]'hlt).toNat : Int) / 16) = (x : Int) := by rw [hc, IntKind.wrap_u8]; have := UInt8.toNat_lt c; omega
              have q2 : ((s[i]'hlt).toNat : Int).tmod 16 = (y : Int) := by rw [hc, Int.tmod_eq_emod_of_nonneg (by omega)]; omega
              have q3 : IntKind.u8.wrap ((x : Int) + 1) = (x : Int) + 1 := by rw [IntKind.wrap_u8]; omega
              have q4 : IntKind.u8.wrap ((y : Int) + 1) = (y : Int) + 1 := by rw [IntKind.wrap_u8]; omega
              have s1 := hex_slice x hx16
              have s2 := hex_slice y hy16
              rw [hx, hy] at He
              obtain ⟨da, hda⟩ : ∃ a, smallL.getD x 0 = a := ⟨_, rfl⟩
              obtain ⟨db, hdb⟩ : ∃ a, smallL.getD y 0 = a := ⟨_, rfl⟩
              rw [hda] at s1 He
              rw [hdb] at s2 He
              clear c34 hc c10 cp hx hy hda hdb
              go_wp2_with fail
              go_quiet (fail)
              go_wp2_with fail
              exact ⟨⟨i + 1, ret_cat3 HO.out Hst.out He.out rfl, by go_num, by omega, Lib.hid (below_drewN HB.out _)⟩, by simp [intOf]; omega⟩
            · have k4 : (32 : Int) ≤ ((s[i]'hlt).toNat : Int) := by rw [hc]; omega
              have k5 : (126 : Int) < ((s[i]'hlt).toNat : Int) := by
                rw [hc]
                have h1 : ¬ c.toNat ≤ 126 := fun h => cp ⟨UInt8.le_iff_toNat_le.2 (by simp; omega), UInt8.le_iff_toNat_le.2 (by simpa using h)⟩
                omega
              have Hc := Lib.hid hc
              obtain ⟨x, hx⟩ : ∃ x : Nat, c.toNat / 16 = x := ⟨_, rfl⟩
              obtain ⟨y, hy⟩ : ∃ y : Nat, c.toNat % 16 = y := ⟨_, rfl⟩
              have hx16 : x < 16 := by have := UInt8.toNat_lt c; omega
              have hy16 : y < 16 := by omega
              have q1 : IntKind.u8.wrap (((s[i]'hlt).toNat : Int) / 16) = (x : Int) := by rw [hc, IntKind.wrap_u8]; have := UInt8.toNat_lt c; omega
              have q2 : ((s[i]'hlt).toNat : Int).tmod 16 = (y : Int) := by rw [hc, Int.tmod_eq_emod_of_nonneg (by omega)]; omega
              have q3 : IntKind.u8.wrap ((x : Int) + 1) = (x : Int) + 1 := by rw [IntKind.wrap_u8]; omega
              have q4 : IntKind.u8.wrap ((y : Int) + 1) = (y : Int) + 1 := by rw [IntKind.wrap_u8]; omega
              have s1 := hex_slice x hx16
              have s2 := hex_slice y hy16
              rw [hx, hy] at He
              obtain ⟨da, hda⟩ : ∃ a, smallL.getD x 0 = a := ⟨_, rfl⟩
              obtain ⟨db, hdb⟩ : ∃ a, smallL.getD y 0 = a := ⟨_, rfl⟩
              rw [hda] at s1 He
              rw [hdb] at s2 He
              clear c34 hc c10 cp hx hy hda hdb
              go_wp2_with fail
              go_quiet (fail)
              go_wp2_with fail
              exact ⟨⟨i + 1, ret_cat3 HO.out Hst.out He.out rfl, by go_num, by omega, Lib.hid (below_drewN HB.out _)⟩, by simp [intOf]; omega⟩
    · have Hie := Lib.hid (show i = s.size by omega)
      go_wp2_with fail
      go_ret
      refine ⟨ret_str ?_, HB.out⟩
      rw [← HO.out, Hie.out, Lib.size_eq, List.take_length, bs_cat]
      rfl
set_option maxHeartbeats 4000000 in
theorem Laid_calls (x : Tk) (w : World) (hs : x.text.length ≤ 1000000) (hk : x.kind ≤ 5) :
    Calls Tryd.prog 16 #[.agg #[.int .i64 (x.kind : Int), .string (bs x.text), .int .i64 (x.pos : Int)]] w fun e w' => e = .returned (.string (bs (laidL x.kind x.text))) ∧ Below w.heap.size w w' := by
  obtain ⟨k, t, p⟩ := x
  simp only at hs hk ⊢
  have h1 : ∀ (y : Nat), ((k : Int) == (y : Int)) = decide (k = y) := fun y => by
    rw [Bool.eq_iff_iff]; simp; omega
  have k0 := h1 0
  have k1 := h1 1
  have k3 := h1 3
  clear h1
  by_cases c0 : k = 0
  · subst c0
    go_enter Tryd.func16, Tryd.ntmps16
    go_wp2_with fail
    go_ret
    exact ⟨rfl, (Below.refl _ w).alloc (Nat.le_refl _) _⟩
  · rw [decide_eq_false c0] at k0
    by_cases c1 : k = 1
    · subst c1
      go_enter Tryd.func16, Tryd.ntmps16
      go_wp2_with fail
      go_ret
      exact ⟨rfl, (Below.refl _ w).alloc (Nat.le_refl _) _⟩
    · rw [decide_eq_false c1] at k1
      by_cases c3 : k = 3
      · subst c3
        go_enter Tryd.func16, Tryd.ntmps16
        go_wp2_with (go_at_call 25; refine (RefQuote_calls (bs t) _ (by rw [bs_size]; omega)).mono ?_; rintro e w1 ⟨rfl, hb⟩)
        go_ret
        exact ⟨ret_str (by rw [show (bs t).data.toList = t by simp [bs]]; rfl), below_alloc' (hb.mono (by simp))⟩
      · rw [decide_eq_false c3] at k3
        go_enter Tryd.func16, Tryd.ntmps16
        go_wp2_with fail
        go_ret
        exact ⟨ret_str (by unfold laidL; rw [if_neg c0, if_neg c1, if_neg c3]), (Below.refl _ w).alloc (Nat.le_refl _) _⟩
end Go.Proofs.YtndejiminaopeaaDoor
