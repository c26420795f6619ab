/- litmusref05.Tokens: the walk. -/
import Derived.Test.YtndejiminaopeaaDoorRef6
namespace Go.Proofs.YtndejiminaopeaaDoor
open Go.RowKit

set_option maxRecDepth 100000 in
set_option maxHeartbeats 8000000 in
theorem RefTokens_calls (s : ByteArray) (w : World) (hs : s.size ≤ 1000000) :
    Calls Tryd.prog 12 #[.string s] w (RefToks s w) := by
  go_enter Tryd.func12, Tryd.ntmps12
  go_wp2_with fail
  go_loopw [4, 5] (fun v4 v5 wr => ∃ (a : Nat) (pre : List Item), v5 = .int .i64 (a : Int) ∧ a ≤ s.size ∧ Hid (RInv s w a v4 pre wr)) (fun _ v5 _ => s.size - (intOf v5).toNat)
  case atStart => exact ⟨0, [], rfl, Nat.zero_le _, Lib.hid ⟨World.ownsRow_nil _ _ _ _, heap_new _ _ _ rfl, (Below.refl _ w).alloc (Nat.le_refl _) _, by simp, by simp, rfl, by simp⟩⟩
  case round =>
    obtain ⟨a, pre, rfl, ha, HI⟩ := hrel
    by_cases hlt : a < s.size
    · have hlti : (a : Int) < s.size := by omega
      cases hb : blanksL.contains (s[a]'hlt) with
      | true =>
        have HB := Lib.hid hb
        have HN := Lib.hid (HI.out.blank hlt hb)
        clear hb
        go_wp2_with fail
        refine (in_some _ _ true _ (by decide) HB.out).mono ?_
        rintro e w1 ⟨rfl, rfl⟩
        go_wp2_with fail
        exact ⟨⟨a + 1, pre, by go_num, by omega, HN⟩, by simp [intOf]; omega⟩
      | false =>
        have HB := Lib.hid hb
        clear hb
        by_cases h59 : s[a]'hlt = 59
        · have k59 : (((s[a]'hlt).toNat : Int) == 59) = true := beqN (n := 59) (by decide) h59
          have HL : Hid (∀ n, n = a + lineL (s.data.toList.drop a) → RInv s w n u4 pre wr) := Lib.hid (fun n hn => HI.out.line hlt h59 hn)
          have HA : Hid (lineL (s.data.toList.drop a) = lineL (s.data.toList.drop (a + 1)) + 1) := Lib.hid (by rw [drop_at s a hlt, lineL_cons, if_neg (by rw [h59]; decide)])
          have k10 : (((s[a]'hlt).toNat : Int) != 10) = true := by rw [h59]; rfl
          have H59 := Lib.hid h59
          clear h59
          go_wp2_with fail
          refine (in_some _ _ false _ (by decide) HB.out).mono ?_
          rintro e w1 ⟨rfl, rfl⟩
          go_wp2_with fail
          go_loop [5] (fun v5 => ∃ n : Nat, v5 = .int .i64 (n : Int) ∧ n ≤ s.size ∧ a ≤ n ∧ Hid (n + lineL (s.data.toList.drop n) = a + lineL (s.data.toList.drop a))) (fun v5 => s.size - (intOf v5).toNat)
          case atStart => exact ⟨a, rfl, by omega, by omega, Lib.hid rfl⟩
          case round =>
            obtain ⟨n, rfl, hn, han, HR⟩ := hrel
            by_cases hlt2 : n < s.size
            · have hlti2 : (n : Int) < s.size := by omega
              have HD := Lib.hid (show lineL (s.data.toList.drop n) = if s[n]'hlt2 = 10 then 0 else lineL (s.data.toList.drop (n + 1)) + 1 by rw [drop_at s n hlt2, lineL_cons])
              by_cases h10 : s[n]'hlt2 = 10
              · have k11 : (((s[n]'hlt2).toNat : Int) != 10) = false := by rw [h10]; rfl
                have HZ : Hid (n = a + lineL (s.data.toList.drop a)) := Lib.hid (by have h1 := HR.out; rw [HD.out, if_pos h10] at h1; omega)
                have hlt3 : a < n := by have := HZ.out; have := HA.out; omega
                clear h10
                go_wp2_with fail
                exact ⟨⟨n, pre, rfl, by omega, Lib.hid (HL.out n HZ.out)⟩, by simp [intOf]; omega⟩
              · have k11 : (((s[n]'hlt2).toNat : Int) != 10) = true := bneT (n := 10) (by decide) h10
                have HZ : Hid (n + 1 + lineL (s.data.toList.drop (n + 1)) = a + lineL (s.data.toList.drop a)) := Lib.hid (by have h1 := HR.out; rw [HD.out, if_neg h10] at h1; omega)
                clear h10
                go_wp2_with fail
                go_round
                case rel => exact ⟨n + 1, by go_num, by omega, by omega, HZ⟩
                case measure => simp [intOf]; omega
            · have HZ : Hid (n = a + lineL (s.data.toList.drop a)) := Lib.hid (by
                have hne : n = s.size := by omega
                have h1 := HR.out
                rw [hne, List.drop_of_length_le (by rw [← Lib.size_eq]; omega)] at h1
                have : lineL [] = 0 := rfl
                omega)
              have hlt3 : a < n := by have := HZ.out; have := HA.out; omega
              go_wp2_with fail
              exact ⟨⟨n, pre, rfl, by omega, Lib.hid (HL.out n HZ.out)⟩, by simp [intOf]; omega⟩
        · have k59 : (((s[a]'hlt).toNat : Int) == 59) = false := bneN (n := 59) (by decide) h59
          have HO := Lib.hid (one_any s a wr hs hlt HB.out h59)
          have H59 := Lib.hid h59
          clear h59
          go_wp2_with fail
          refine (in_some _ _ false _ (by decide) HB.out).mono ?_
          rintro e w1 ⟨rfl, rfl⟩
          go_wp2_with fail
          refine HO.out.mono ?_
          rintro e w1 ⟨k, n, t, rfl, hn, Hn, Hy, HBw⟩
          have hc := below_lt HBw.out HI.out.2.1
          have hsz := HI.out.2.2.2.1
          have hsz1 := HBw.out.size
          have c0 : w1.cell? ⟨w.heap.size, 0, none⟩ = some (.int .i64 0) := (cell_of hc 0).trans rfl
          have c1 : w1.cell? ⟨w.heap.size, 1, none⟩ = some (.int .i64 0) := (cell_of hc 1).trans rfl
          have f0 := frozen_of hc 0
          have f1 := frozen_of hc 1
          have hlt1 : w.heap.size < w1.heap.size := by omega
          have HC := Lib.hid hc
          clear hc
          by_cases h0 : n = 0
          · subst h0
            have HS := Lib.hid (HI.out.stop (.cells #[.int .i64 (k : Int), .string (bs t), .int .i64 (a : Int)] 43) hlt HB.out H59.out Hn.out HBw.out)
            go_wp2_with fail
            exact bodyPost_ret (resToks ((heap_old _ _ _ (by simpa using hlt1)).trans ((heap_set ((heap_set HC.out _ _).trans rfl) _ _).trans rfl)) rfl rfl) rfl HS.out
          · have h0' : ((n : Int) == 0) = false := by simp; omega
            have H1 := Lib.hid (Hy.out h0)
            have HOwn : Hid (((w1.alloc (.cells #[.int .i64 (k : Int), .string (bs t), .int .i64 (a : Int)] 43)).alloc (.cells #[.int .i64 (k : Int), .string (bs t), .int .i64 (a : Int)] 43)).ownsRow (w.heap.size + 1) 43 3 u4 (pre.map tkOf).length (tksV (pre.map tkOf))) := Lib.hid (by rw [List.length_map]; exact ((owns_below HI.out.1 HBw.out).alloc _).alloc _)
            have HRow : Hid (((w1.alloc (.cells #[.int .i64 (k : Int), .string (bs t), .int .i64 (a : Int)] 43)).alloc (.cells #[.int .i64 (k : Int), .string (bs t), .int .i64 (a : Int)] 43)).ownsRow (w.heap.size + 1) 43 3 (.slice (some ⟨w1.heap.size + 1, 0, none⟩) 1 1) 1 (tksV [⟨k, t, a⟩])) := Lib.hid (by
              have := owns_lit (w1.alloc (.cells #[.int .i64 (k : Int), .string (bs t), .int .i64 (a : Int)] 43)) ⟨k, t, a⟩ (w.heap.size + 1) (by simp; omega)
              rw [World.size_alloc] at this
              exact this)
            have hpl : pre.length ≤ 1000000 - 1 := by have := HI.out.2.2.2.2.2.2; omega
            go_wp2_with (refine wpList_append_toks _ _ rfl (w.heap.size + 1) (w.heap.size + 1) (pre.map tkOf) [⟨k, t, a⟩] _ _ rfl HOwn.out rfl HRow.out (by rw [List.length_map]; simp; omega) (by simp; omega) (by rfl) ?_; intro v1 W1 hown1 hgrow1; have HX := Lib.hid (HI.out.next hlt HB.out H59.out h0 H1.out HBw.out _ _ hown1 hgrow1); clear hown1 hgrow1)
            obtain ⟨pre', HX'⟩ := HX.out
            have hn0 : 0 < n := by omega
            exact ⟨⟨a + n, pre', by go_num, hn, Lib.hid HX'⟩, by simp [intOf]; omega⟩
    · have hge : (s.size : Int) ≤ a := by omega
      have HE := Lib.hid (HI.out.end (by omega))
      have hc := HI.out.2.1
      have hsz := HI.out.2.2.2.1
      have c0 : wr.cell? ⟨w.heap.size, 0, none⟩ = some (.int .i64 0) := (cell_of hc 0).trans rfl
      have c1 : wr.cell? ⟨w.heap.size, 1, none⟩ = some (.int .i64 0) := (cell_of hc 1).trans rfl
      have f0 := frozen_of hc 0
      have f1 := frozen_of hc 1
      have HC := Lib.hid hc
      clear hc
      go_wp2_with fail
      exact bodyPost_ret (resToks ((heap_set ((heap_set HC.out _ _).trans rfl) _ _).trans rfl) rfl rfl) rfl HE.out
end Go.Proofs.YtndejiminaopeaaDoor
