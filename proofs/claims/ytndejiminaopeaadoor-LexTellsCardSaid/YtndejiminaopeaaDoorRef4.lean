/- litmusref05.text by its contract (printed by gen_text.py). -/
import Derived.Test.YtndejiminaopeaaDoorRef3
import Derived.Test.YtndejiminaopeaaDoorRefQ
import Derived.IntWalk
namespace Go.Proofs.YtndejiminaopeaaDoor
open Go.RowKit

theorem small_hex (a : UInt8) : smallL.contains a = decide (0 ≤ hexI a) := by
  have h2 := u8_all (p := fun a => smallL.contains a == decide (0 ≤ Lib.indexByte smallL a)) (by decide +kernel) a
  exact beq_iff_eq.1 h2
theorem hexI_lt (a : UInt8) : hexI a < 16 := by
  have := (indexByte_lt smallL a).2 (by decide)
  have hl : smallL.length = 16 := rfl
  unfold hexI; omega
theorem run_two (a b : UInt8) : runL smallL [a, b] = 2 ↔ 0 ≤ hexI a ∧ 0 ≤ hexI b := by
  rw [runL_cons, runL_cons, runL_nil, small_hex, small_hex]
  by_cases ha : 0 ≤ hexI a
  · by_cases hb : 0 ≤ hexI b
    · simp [ha, hb]
    · simp [ha, hb]
  · simp [ha]
theorem esc_120_short (r : List UInt8) (h : r.length < 2) : escL (120 :: r) = (0, 0) := by
  match r, h with
  | [], _ => rfl
  | [a], _ => rfl
theorem esc_120_yes (a b : UInt8) (r : List UInt8) (ha : 0 ≤ hexI a) (hb : 0 ≤ hexI b) : escL (120 :: a :: b :: r) = (16 * hexAt a + hexAt b, 3) := by
  show (if runL smallL [a, b] = 2 then (16 * hexAt a + hexAt b, 3) else (0, 0)) = _
  rw [if_pos ((run_two a b).2 ⟨ha, hb⟩)]
theorem esc_120_no (a b : UInt8) (r : List UInt8) (h : ¬ (0 ≤ hexI a ∧ 0 ≤ hexI b)) : escL (120 :: a :: b :: r) = (0, 0) := by
  show (if runL smallL [a, b] = 2 then (16 * hexAt a + hexAt b, 3) else (0, 0)) = _
  rw [if_neg (fun e => h ((run_two a b).1 e))]
theorem esc_other (d : UInt8) (r : List UInt8) (h1 : d ≠ 110) (h2 : d ≠ 34) (h3 : d ≠ 92) (h4 : d ≠ 120) : escL (d :: r) = (0, 0) := by
  show (if d = 110 then _ else if d = 34 then _ else if d = 92 then _ else if d = 120 then _ else _) = _
  rw [if_neg h1, if_neg h2, if_neg h3, if_neg h4]
theorem quot_esc (k : Nat) (r : List UInt8) (n : Nat) (acc : List UInt8) : quotGo (k + 1) (92 :: r) n acc =
    if (escL r).2 = 0 then ([], 0) else quotGo k (r.drop (escL r).2) (n + 1 + (escL r).2) (acc ++ [UInt8.ofNat (escL r).1]) := rfl
theorem hex_some (c : UInt8) (v : Int) (w : World) (h : hexI c = v) : Calls Tryd.prog 57 #[.int .u8 (c.toNat : Int)] w fun e w' => e = .returned (.int .i64 v) ∧ w = w' := by
  have := hex_ref c w
  rw [h] at this; exact this
theorem bs_snoc {o : ByteArray} {acc : List UInt8} {c : UInt8} (h : bs acc = o) : Value.string (o ++ ⟨#[c]⟩) = Value.string (bs (acc ++ [c])) := by
  rw [← h, show (⟨#[c]⟩ : ByteArray) = ⟨[c].toArray⟩ from rfl, bs_cat]
theorem one_slice (s : ByteArray) (i : Nat) (h : i < s.size) (hs : s.size ≤ 1000000) (a b : Int) (ha : a = i) (hb : b = i + 1) (wx : World) : (Instr.slice 9 (.string s) (some (.int .i64 a)) (some (.int .i64 b)) none).run Tryd.prog wx = .ok (.string ⟨#[s[i]'h]⟩) wx := by
  subst ha; subst hb
  have hx := ext_one s i h
  have hnat : ((i : Int) + 1).toNat = i + 1 := by omega
  rw [run_slice_string wx _ _ _ _ _ _ Tryd.underlying9 (by omega) (by omega) (by omega), hnat, ← hx]; rfl

theorem conv_one (a : UInt8) (W : World) (g : Nat) (h : W.heap[g]? = some (.cells #[.int .u8 (a.toNat : Int)] 5 (0, 0))) :
    (convert 24 9 (.slice (some ⟨g, 0, none⟩) 1 1)).run Tryd.prog W = .ok (.string ⟨#[a]⟩) W := by
  refine run_convert_bytes_back W _ _ 5 ⟨g, 0, none⟩ 1 [a] Tryd.underlying24 Tryd.underlying5 Tryd.underlying9 ?_
  intro j hj
  have e : (Addr.add ⟨g, 0, none⟩ j) = (⟨g, j, none⟩ : Addr) := by by_cases h0 : j = 0 <;> simp [Addr.add, h0]
  rw [e, cell_of h]
  match j, hj with
  | 0, _ => rfl
theorem ret_si {a b : ByteArray} {x y : Int} (h : a = b) (h2 : x = y) : Ending.returned (.tuple #[.string a, .int .i64 x]) = .returned (.tuple #[.string b, .int .i64 y]) := by rw [h, h2]
set_option maxRecDepth 100000 in
set_option maxHeartbeats 8000000 in
theorem text_ref (s : ByteArray) (p N : Nat) (T : List UInt8) (w : World) (hs : s.size ≤ 1000000) (hp : p < s.size) (hq : quotL (s.data.toList.drop p) = (T, N)) :
    Calls Tryd.prog 41 #[.string s, .int .i64 (p : Int)] w fun e w' => e = .returned (.tuple #[.string (bs T), .int .i64 (N : Int)]) ∧ Below w.heap.size w w' := by
  have HQ : Hid (quotGo (s.size - p) (s.data.toList.drop (p + 1)) 1 [] = (T, N)) := Lib.hid (by
    rw [← hq]
    unfold quotL
    rw [List.drop_drop, List.length_drop, ← Lib.size_eq])
  clear hq
  go_enter Tryd.func41, Tryd.ntmps41
  go_wp2_with fail
  go_loopw [6, 7] (fun v6 v7 wr => ∃ (k n : Nat) (acc : List UInt8), v6 = .string (bs acc) ∧ v7 = .int .i64 (n : Int) ∧ p < n ∧ n ≤ s.size ∧ acc.length + p < n ∧ s.size < n + k ∧ Hid (quotGo k (s.data.toList.drop n) (n - p) acc = (T, N)) ∧ Hid (Below w.heap.size w wr)) (fun _ v7 _ => s.size - (intOf v7).toNat)
  case atStart => exact ⟨s.size - p, p + 1, [], rfl, by go_num, by omega, by omega, by simp, by omega, Lib.hid (by rw [show p + 1 - p = 1 by omega]; exact HQ.out), Lib.hid (Below.refl _ _)⟩
  case round =>
    obtain ⟨k, n, acc, rfl, rfl, hpn, hn, hacc, hk, HR, HB⟩ := hrel
    have hos : (bs acc).size ≤ 1000000 := by rw [bs_size]; omega
    obtain ⟨o, ho⟩ : ∃ o, bs acc = o := ⟨_, rfl⟩
    rw [ho] at hos ⊢
    have HO := Lib.hid ho
    clear ho
    obtain ⟨k, rfl⟩ : ∃ m, k = m + 1 := ⟨k - 1, by omega⟩
    by_cases hlt : n < s.size
    · have hlti : (n : Int) < s.size := by omega
      have hge : decide (s.size ≤ n) = false := decide_eq_false (by omega)
      have hr := HR.out
      rw [drop_at s n hlt] at hr
      clear HR
      obtain ⟨c, hc⟩ : ∃ c, s[n]'hlt = c := ⟨_, rfl⟩
      rw [hc] at hr
      by_cases c34 : c = 34
      · have k34 : (((s[n]'hlt).toNat : Int) != 34) = false := by rw [hc, c34]; rfl
        have hv : (acc, n - p + 1) = (T, N) := by rw [← hr, c34]; rfl
        injection hv with hv1 hv2
        have H1 := Lib.hid hv1
        have H2 := Lib.hid hv2
        clear c34 hr hc hv1 hv2
        go_wp2_with fail
        go_ret2
        exact ⟨ret_si (by rw [← H1.out]; exact HO.out.symm) (by rw [← H2.out]; omega), HB.out⟩
      · have k34 : (((s[n]'hlt).toNat : Int) != 34) = true := by rw [hc]; exact bneT (n := 34) (by decide) c34
        by_cases cb : c < 32 ∨ 126 < c
        · have hv : (([] : List UInt8), 0) = (T, N) := by
            rw [← hr, quotGo_step, if_neg c34, if_neg (by rintro rfl; revert cb; decide), if_pos cb]
          injection hv with hv1 hv2
          have H1 := Lib.hid hv1
          have H2 := Lib.hid hv2
          by_cases clo : c.toNat < 32
          · have k4 : ((s[n]'hlt).toNat : Int) < 32 := by rw [hc]; omega
            clear cb clo c34 hr hc hv1 hv2
            go_wp2_with fail
            go_ret2
            exact ⟨ret_si (by rw [← H1.out]; rfl) (by rw [← H2.out]; rfl), HB.out⟩
          · have k4 : (32 : Int) ≤ ((s[n]'hlt).toNat : Int) := by rw [hc]; omega
            have k5 : (126 : Int) < ((s[n]'hlt).toNat : Int) := by
              rw [hc]
              rcases cb with cb | cb
              · have := UInt8.lt_iff_toNat_lt.1 cb; simp at this; omega
              · have := UInt8.lt_iff_toNat_lt.1 cb; simp at this; omega
            clear cb clo c34 hr hc hv1 hv2
            go_wp2_with fail
            go_ret2
            exact ⟨ret_si (by rw [← H1.out]; rfl) (by rw [← H2.out]; rfl), HB.out⟩
        · have k4 : (32 : Int) ≤ ((s[n]'hlt).toNat : Int) := by
            rw [hc]
            have : ¬ c.toNat < 32 := fun h => cb (.inl (UInt8.lt_iff_toNat_lt.2 (by simpa using h)))
            omega
          have k5 : ((s[n]'hlt).toNat : Int) ≤ 126 := by
            rw [hc]
            have : ¬ 126 < c.toNat := fun h => cb (.inr (UInt8.lt_iff_toNat_lt.2 (by simpa using h)))
            omega
          by_cases c92 : c = 92
          · have k92 : (((s[n]'hlt).toNat : Int) != 92) = false := by rw [hc, c92]; rfl
            rw [c92, quot_esc] at hr
            clear c34 cb hc c92
            by_cases h1 : n + 1 < s.size
            · have h1i : (n : Int) + 1 < s.size := by omega
              have hge1 : decide ((s.size : Int) ≤ (n : Int) + 1) = false := decide_eq_false (by omega)
              rw [drop_at s (n + 1) h1] at hr
              obtain ⟨d, hd⟩ : ∃ d, s[n + 1]'h1 = d := ⟨_, rfl⟩
              rw [hd] at hr
              have h2i : (n : Int) + 2 ≤ s.size := by omega
              have hsl1 := one_slice s (n + 1) h1 hs ((n : Int) + 1) ((n : Int) + 2) (by omega) (by omega)
              by_cases d110 : d = 110
              · have q1 : (((s[n + 1]'h1).toNat : Int) == 110) = true := by rw [hd, d110]; rfl
                have HV : Hid (quotGo k (s.data.toList.drop (n + 2)) (n + 2 - p) (acc ++ [10]) = (T, N)) := Lib.hid (by rw [show n + 2 - p = n - p + 1 + 1 by omega, ← hr, d110]; rfl)
                clear hr hd d110
                go_wp2_with fail
                exact ⟨⟨k, n + 2, acc ++ [10], bs_snoc HO.out, by go_num, by omega, by omega, by simp; omega, by omega, HV, HB⟩, by simp [intOf]; omega⟩
              · have q1 : (((s[n + 1]'h1).toNat : Int) == 110) = false := by rw [hd]; exact bneN (n := 110) (by decide) d110
                by_cases d34 : d = 34
                · have q2 : (((s[n + 1]'h1).toNat : Int) == 34) = true := by rw [hd, d34]; rfl
                  have HV : Hid (quotGo k (s.data.toList.drop (n + 2)) (n + 2 - p) (acc ++ [s[n + 1]'h1]) = (T, N)) := Lib.hid (by rw [hd, show n + 2 - p = n - p + 1 + 1 by omega, ← hr, d34]; rfl)
                  clear hr hd d110 d34
                  go_wp2_with fail
                  exact ⟨⟨k, n + 2, acc ++ [s[n + 1]'h1], bs_snoc HO.out, by go_num, by omega, by omega, by simp; omega, by omega, HV, HB⟩, by simp [intOf]; omega⟩
                · have q2 : (((s[n + 1]'h1).toNat : Int) == 34) = false := by rw [hd]; exact bneN (n := 34) (by decide) d34
                  by_cases d92 : d = 92
                  · have q3 : (((s[n + 1]'h1).toNat : Int) == 92) = true := by rw [hd, d92]; rfl
                    have HV : Hid (quotGo k (s.data.toList.drop (n + 2)) (n + 2 - p) (acc ++ [s[n + 1]'h1]) = (T, N)) := Lib.hid (by rw [hd, show n + 2 - p = n - p + 1 + 1 by omega, ← hr, d92]; rfl)
                    clear hr hd d110 d34 d92
                    go_wp2_with fail
                    exact ⟨⟨k, n + 2, acc ++ [s[n + 1]'h1], bs_snoc HO.out, by go_num, by omega, by omega, by simp; omega, by omega, HV, HB⟩, by simp [intOf]; omega⟩
                  · have q3 : (((s[n + 1]'h1).toNat : Int) == 92) = false := by rw [hd]; exact bneN (n := 92) (by decide) d92
                    by_cases d120 : d = 120
                    · have q4 : (((s[n + 1]'h1).toNat : Int) == 120) = true := by rw [hd, d120]; rfl
                      by_cases h3 : n + 3 < s.size
                      · have h3i : (n : Int) + 3 < s.size := by omega
                        have h2i' : (n : Int) + 2 < s.size := by omega
                        have h2 : n + 2 < s.size := by omega
                        rw [drop_at s (n + 1 + 1) h2, drop_at s (n + 1 + 1 + 1) h3, d120] at hr
                        obtain ⟨va, hva⟩ : ∃ v, hexI (s[n + 2]'h2) = v := ⟨_, rfl⟩
                        obtain ⟨vb, hvb⟩ : ∃ v, hexI (s[n + 3]'h3) = v := ⟨_, rfl⟩
                        have ha16 := hexI_lt (s[n + 2]'h2)
                        have hb16 := hexI_lt (s[n + 3]'h3)
                        rw [hva] at ha16
                        rw [hvb] at hb16
                        have HA := Lib.hid hva
                        have HBb := Lib.hid hvb
                        by_cases hab : 0 ≤ va ∧ 0 ≤ vb
                        · obtain ⟨ha0, hb0⟩ := hab
                          rw [esc_120_yes _ _ _ (by rw [hva]; exact ha0) (by rw [hvb]; exact hb0)] at hr
                          obtain ⟨e, he⟩ : ∃ e : UInt8, UInt8.ofNat (16 * hexAt (s[n + 2]'h2) + hexAt (s[n + 3]'h3)) = e := ⟨_, rfl⟩
                          have het : (16 * va + vb) % 256 = (e.toNat : Int) := by
                            have e1 : (hexAt (s[n + 2]'h2) : Int) = va := by unfold hexAt; rw [show Lib.indexByte smallL (s[n + 2]'h2) = va from hva]; omega
                            have e2 : (hexAt (s[n + 3]'h3) : Int) = vb := by unfold hexAt; rw [show Lib.indexByte smallL (s[n + 3]'h3) = vb from hvb]; omega
                            rw [← he, UInt8.toNat_ofNat']
                            omega
                          have HV : Hid (quotGo k (s.data.toList.drop (n + 4)) (n + 4 - p) (acc ++ [e]) = (T, N)) := Lib.hid (by rw [← he, show n + 4 - p = n - p + 1 + 3 by omega, ← hr]; rfl)
                          clear hr hd d110 d34 d92 d120 hva hvb he
                          go_wp2_with fail
                          refine (hex_some _ va _ HA.out).mono ?_
                          rintro e1 w1 ⟨rfl, rfl⟩
                          go_wp2_with fail
                          refine (hex_some _ vb _ HBb.out).mono ?_
                          rintro e1 w1 ⟨rfl, rfl⟩
                          go_wp2_with fail
                          have hsum : ¬ 9223372036854775807 < o.size + 1 := by omega
                          have n2 : IntKind.i64.wrap ((n : Int) + 2) = (n : Int) + 2 := IntWalk.i64_in _ (by omega)
                          have n3 : IntKind.i64.wrap ((n : Int) + 3) = (n : Int) + 3 := IntWalk.i64_in _ (by omega)
                          have t2 : ((n : Int) + 2).toNat = n + 2 := by omega
                          have t3 : ((n : Int) + 3).toNat = n + 3 := by omega
                          have p2 : (0 : Int) ≤ (n : Int) + 2 := by omega
                          have p3 : (0 : Int) ≤ (n : Int) + 3 := by omega
                          have m1 : IntKind.i64.wrap (16 * va) = 16 * va := IntWalk.i64_in _ (by omega)
                          have m2 : IntKind.i64.wrap (16 * va + vb) = 16 * va + vb := IntWalk.i64_in _ (by omega)
                          have m3 : IntKind.u8.wrap (16 * va + vb) = (e.toNat : Int) := by rw [IntKind.wrap_u8]; exact het
                          have hcv : (convert 24 9 (.slice (some ⟨wr.heap.size, 0, none⟩) 1 1)).run Tryd.prog (wr.alloc (.cells #[.int .u8 (e.toNat : Int)] 5)).drew = .ok (.string ⟨#[e]⟩) (wr.alloc (.cells #[.int .u8 (e.toNat : Int)] 5)).drew :=
                            conv_one e _ _ (heap_new _ _ _ rfl)
                          go_region_with ((go_at_call 57; first | ((with_reducible refine (hex_some _ va _ HA.out).mono ?_); rintro e1 w1 ⟨rfl, rfl⟩) | ((with_reducible refine (hex_some _ vb _ HBb.out).mono ?_); rintro e1 w1 ⟨rfl, rfl⟩)))
                          all_goals
                            go_wp2_with fail
                            exact ⟨⟨k, n + 4, acc ++ [e], bs_snoc HO.out, by go_num, by omega, by omega, by simp; omega, by omega, HV, Lib.hid ((HB.out.alloc HB.out.size _).drew)⟩, by simp [intOf]; omega⟩
                        · rw [esc_120_no _ _ _ (by rw [hva, hvb]; exact hab)] at hr
                          have hv : (([] : List UInt8), 0) = (T, N) := by rw [← hr]; rfl
                          by_cases ha0 : 0 ≤ va
                          · have hb0 : vb < 0 := by omega
                            clear hab hva hvb
                            injection hv with hv1 hv2
                            have H1 := Lib.hid hv1
                            have H2 := Lib.hid hv2
                            clear hr hd hv1 hv2 d110 d34 d92 d120
                            go_wp2_with fail
                            refine (hex_some _ va _ HA.out).mono ?_
                            rintro e1 w1 ⟨rfl, rfl⟩
                            go_wp2_with fail
                            refine (hex_some _ vb _ HBb.out).mono ?_
                            rintro e1 w1 ⟨rfl, rfl⟩
                            go_wp2_with fail
                            go_ret2
                            exact ⟨ret_si (by rw [← H1.out]; rfl) (by rw [← H2.out]; rfl), HB.out⟩
                          · have ha0' : va < 0 := by omega
                            clear hab hva hvb ha0
                            injection hv with hv1 hv2
                            have H1 := Lib.hid hv1
                            have H2 := Lib.hid hv2
                            clear hr hd hv1 hv2 d110 d34 d92 d120
                            go_wp2_with fail
                            refine (hex_some _ va _ HA.out).mono ?_
                            rintro e1 w1 ⟨rfl, rfl⟩
                            go_wp2_with fail
                            go_ret2
                            exact ⟨ret_si (by rw [← H1.out]; rfl) (by rw [← H2.out]; rfl), HB.out⟩
                      · have h3i : (s.size : Int) ≤ (n : Int) + 3 := by omega
                        rw [d120, esc_120_short _ (by rw [List.length_drop, ← Lib.size_eq]; omega)] at hr
                        have hv : (([] : List UInt8), 0) = (T, N) := by rw [← hr]; rfl
                        injection hv with hv1 hv2
                        have H1 := Lib.hid hv1
                        have H2 := Lib.hid hv2
                        clear hr hd hv1 hv2 d110 d34 d92 d120
                        go_wp2_with fail
                        go_ret2
                        exact ⟨ret_si (by rw [← H1.out]; rfl) (by rw [← H2.out]; rfl), HB.out⟩
                    · have q4 : (((s[n + 1]'h1).toNat : Int) == 120) = false := by rw [hd]; exact bneN (n := 120) (by decide) d120
                      rw [esc_other d _ d110 d34 d92 d120] at hr
                      have hv : (([] : List UInt8), 0) = (T, N) := by rw [← hr]; rfl
                      injection hv with hv1 hv2
                      have H1 := Lib.hid hv1
                      have H2 := Lib.hid hv2
                      clear hr hd hv1 hv2 d110 d34 d92 d120
                      go_wp2_with fail
                      go_ret2
                      exact ⟨ret_si (by rw [← H1.out]; rfl) (by rw [← H2.out]; rfl), HB.out⟩
            · have h1i : (s.size : Int) ≤ (n : Int) + 1 := by omega
              have hv : (([] : List UInt8), 0) = (T, N) := by
                rw [List.drop_of_length_le (by rw [← Lib.size_eq]; omega)] at hr
                rw [← hr]; rfl
              injection hv with hv1 hv2
              have H1 := Lib.hid hv1
              have H2 := Lib.hid hv2
              clear hr hv1 hv2
              go_wp2_with fail
              go_ret2
              exact ⟨ret_si (by rw [← H1.out]; rfl) (by rw [← H2.out]; rfl), HB.out⟩
          · have k92 : (((s[n]'hlt).toNat : Int) != 92) = true := by rw [hc]; exact bneT (n := 92) (by decide) c92
            rw [quotGo_step, if_neg c34, if_neg c92, if_neg cb] at hr
            have HV : Hid (quotGo k (s.data.toList.drop (n + 1)) (n + 1 - p) (acc ++ [s[n]'hlt]) = (T, N)) := Lib.hid (by rw [hc, show n + 1 - p = n - p + 1 by omega]; exact hr)
            have hsl := one_slice s n hlt hs (n : Int) ((n : Int) + 1) rfl rfl
            clear c34 cb hc c92 hr
            go_wp2_with fail
            exact ⟨⟨k, n + 1, acc ++ [s[n]'hlt], bs_snoc HO.out, by go_num, by omega, by omega, by simp; omega, by omega, HV, HB⟩, by simp [intOf]; omega⟩
    · have hge : decide (s.size ≤ n) = true := decide_eq_true (by omega)
      have hlti : (s.size : Int) ≤ n := by omega
      have hv : (([] : List UInt8), 0) = (T, N) := by
        have hr := HR.out
        rw [List.drop_of_length_le (by rw [← Lib.size_eq]; omega)] at hr
        rw [← hr]; rfl
      injection hv with hv1 hv2
      have H1 := Lib.hid hv1
      have H2 := Lib.hid hv2
      clear hv1 hv2
      go_wp2_with fail
      go_ret2
      exact ⟨ret_si (by rw [← H1.out]; rfl) (by rw [← H2.out]; rfl), HB.out⟩
end Go.Proofs.YtndejiminaopeaaDoor
