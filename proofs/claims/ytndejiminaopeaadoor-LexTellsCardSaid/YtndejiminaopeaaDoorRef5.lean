/- litmusref05.One by its contract. -/
import Derived.Test.YtndejiminaopeaaDoorOnePlain
import Derived.Test.YtndejiminaopeaaDoorRef4
namespace Go.Proofs.YtndejiminaopeaaDoor
open Go.RowKit

theorem resOne {tmps : Array Value} {W : World} {n0 : Nat} {k p n : Int} {t : ByteArray} (hv : W.heap[n0]? = some (.cells #[.int .i64 k, .string t, .int .i64 p] 43 (0, 0)))
    (h4 : tmps.getD 4 undef = .pointer (some ⟨n0, 0, none⟩)) (h5 : tmps.getD 5 undef = .int .i64 n) :
    (results Tryd.f28 tmps).run Tryd.prog W = .ok (.tuple #[.agg #[.int .i64 k, .string t, .int .i64 p], .int .i64 n]) W := by
  have c := cell_of hv 0
  have c' := cell_of hv 1
  have c'' := cell_of hv 2
  have r : (Tryd.f28).results = #[.cell 4 43, .tmp 5] := rfl
  have g4 : tmps[4]?.getD undef = .pointer (some ⟨n0, 0, none⟩) := by rw [← h4]; simp
  have g5 : tmps[5]?.getD undef = .int .i64 n := by rw [← h5]; simp
  have z : (sizeOf 43).run Tryd.prog W = .ok 3 W := by kernel_rfl
  have iag : (isAgg 43).run Tryd.prog W = .ok true W := by kernel_rfl
  simp [results, r, g4, g5, go_sem, c, c', c'', z, iag]
/-- What One hands back: the token at a place. -/
def OnePost (l : List UInt8) (p : Nat) (w : World) (e : Ending) (w' : World) : Prop :=
  ∃ (k n : Nat) (t : List UInt8), e = .returned (.tuple #[.agg #[.int .i64 (k : Int), .string (bs t), .int .i64 (p : Int)], .int .i64 (n : Int)]) ∧ (oneL l).2.2 = n ∧ (n ≠ 0 → oneL l = (k, t, n)) ∧ Below w.heap.size w w'

theorem numLenL_le (l : List UInt8) : numLenL l ≤ l.length := by
  cases l with
  | nil => decide
  | cons c r =>
    by_cases h : c = 45
    · subst h
      rw [numLen_45]
      have := runL_le digitsL r
      split <;> simp <;> omega
    · rw [numLen_c r h]; exact runL_le _ _
theorem parted_any (s : ByteArray) (a : Int) (q : Nat) (b : Bool) (w : World) (ha : a = (q : Int)) (hs : s.size ≤ 1000000) (hp : q ≤ s.size) (hb : partedL (s.data.toList.drop q) = b) :
    Calls Tryd.prog 45 #[.string s, .int .i64 a] w fun e w' => e = .returned (.bool b) ∧ w = w' := by
  subst ha; exact parted_ref s q b w hs hp hb
theorem slice_any (s tx : ByteArray) (p n : Nat) (a b : Int) (ha : a = (p : Int)) (hb : b = (p : Int) + (n : Int)) (hn : p + n ≤ s.size) (htx : s.extract p (p + n) = tx) (wx : World) :
    (Instr.slice 9 (.string s) (some (.int .i64 a)) (some (.int .i64 b)) none).run Tryd.prog wx = .ok (.string tx) wx := by
  subst ha; subst hb
  have hnat : ((p : Int) + (n : Int)).toNat = p + n := by omega
  rw [run_slice_string wx _ _ _ _ _ _ Tryd.underlying9 (by omega) (by omega) (by omega), hnat, ← htx]; rfl
theorem one_fin {l : List UInt8} {k n m p : Nat} {kk : Int} {tx : ByteArray} {b : Bool} {w w' : World} (h : OneIs k tx.data.toList n l) (hk : kk = (k : Int)) (hb : partedL (l.drop n) = b) (hm : m = if b = true then n else 0) (hB : Below w.heap.size w w') :
    OnePost l p w (.returned (.tuple #[.agg #[.int .i64 kk, .string tx, .int .i64 (p : Int)], .int .i64 (m : Int)])) w' := by
  subst hk
  refine ⟨k, m, tx.data.toList, by rw [bs_data], by rw [h.1, hb, hm], fun hne => ?_, hB⟩
  have h1 := h.1
  rw [hb, ← hm] at h1
  have h2 := h.2 (by rw [h1]; exact hne)
  exact Prod.ext h2.1 (Prod.ext h2.2 h1)
theorem name_at (s : ByteArray) (p n : Nat) (w : World) (hs : s.size ≤ 1000000) (hp : p ≤ s.size) (hn : namedL (s.data.toList.drop p) = n) :
    Calls Tryd.prog 36 #[.string s, .int .i64 (p : Int)] w fun e w' => e = .returned (.int .i64 (n : Int)) ∧ w = w' := by
  have := name_ref s p w hs hp
  rw [hn] at this; exact this
theorem number_at (s : ByteArray) (p n : Nat) (w : World) (hs : s.size ≤ 1000000) (hp : p ≤ s.size) (hn : numLenL (s.data.toList.drop p) = n) :
    Calls Tryd.prog 37 #[.string s, .int .i64 (p : Int)] w fun e w' => e = .returned (.int .i64 (n : Int)) ∧ w = w' := by
  have := number_ref s p w hs hp
  rw [hn] at this; exact this
theorem refnumber_at (u : ByteArray) (w : World) (hu : u.size ≤ 1000000) (b : Bool) (hb : numB u.data.toList = b) :
    Calls Tryd.prog 24 #[.string u] w fun e w' => e = .returned (.bool b) ∧ w = w' := by
  have := RefNumber_calls u w hu
  rw [hb] at this; exact this
theorem below_two (w : World) (o o' : Obj) : Below w.heap.size w ((w.alloc o).alloc o') := ((Below.refl _ w).alloc (Nat.le_refl _) _).alloc (by simp) _

set_option maxRecDepth 100000 in
set_option maxHeartbeats 8000000 in
theorem One_ref (s : ByteArray) (p : Nat) (w : World) (hs : s.size ≤ 1000000) (hp : p < s.size) (hb : blanksL.contains (s[p]'hp) = false) (h59 : s[p]'hp ≠ 59) :
    Calls Tryd.prog 28 #[.string s, .int .i64 (p : Int)] w (OnePost (s.data.toList.drop p) p w) := by
  have hlti : (p : Int) < s.size := by omega
  have hl := drop_at s p hp
  have hlen : (s.data.toList.drop p).length = s.size - p := by rw [List.length_drop, ← Lib.size_eq]
  obtain ⟨c, hc⟩ : ∃ c, s[p]'hp = c := ⟨_, rfl⟩
  rw [hc] at hb h59 hl
  obtain ⟨r, hr⟩ : ∃ r, s.data.toList.drop (p + 1) = r := ⟨_, rfl⟩
  rw [hr] at hl
  go_enter Tryd.func28, Tryd.ntmps28
  by_cases c40 : c = 40
  · have k40 : (((s[p]'hp).toNat : Int) == 40) = true := by rw [hc, c40]; rfl
    have HL : Hid (oneL (s.data.toList.drop p) = (0, [], 1)) := Lib.hid (by rw [hl, c40]; exact one_open _)
    clear hb h59 hl hc c40 hr hlen
    go_wp2_with fail
    exact bodyPost_ret (resOne ((heap_old _ _ _ (by simp)).trans (heap_new _ _ _ rfl)) rfl rfl) rfl ⟨0, 1, [], rfl, by rw [HL.out], fun _ => HL.out, below_two _ _ _⟩
  · have k40 : (((s[p]'hp).toNat : Int) == 40) = false := by rw [hc]; exact bneN (n := 40) (by decide) c40
    by_cases c41 : c = 41
    · have k41 : (((s[p]'hp).toNat : Int) == 41) = true := by rw [hc, c41]; rfl
      have HL : Hid (oneL (s.data.toList.drop p) = (1, [], 1)) := Lib.hid (by rw [hl, c41]; exact one_close _)
      clear hb h59 hl hc c40 c41 hr hlen
      go_wp2_with fail
      exact bodyPost_ret (resOne ((heap_old _ _ _ (by simp)).trans (heap_new _ _ _ rfl)) rfl rfl) rfl ⟨1, 1, [], rfl, by rw [HL.out], fun _ => HL.out, below_two _ _ _⟩
    · have k41 : (((s[p]'hp).toNat : Int) == 41) = false := by rw [hc]; exact bneN (n := 41) (by decide) c41
      by_cases c34 : c = 34
      · have k34 : (((s[p]'hp).toNat : Int) == 34) = true := by rw [hc, c34]; rfl
        rcases hq : quotL (s.data.toList.drop p) with ⟨T, n⟩
        have HI : Hid (OneIs 3 (bs T).data.toList n (s.data.toList.drop p)) := Lib.hid (by
          have := oneIs_text (r := r)
          rw [← c34, ← hl, hq] at this
          rw [bs_toList]; exact this)
        have hn : p + n ≤ s.size := by
          have := quotL_le (s.data.toList.drop p) (by rw [hl]; simp)
          rw [hq, hlen] at this
          have : n ≤ s.size - p := this
          omega
        have hni : (p : Int) + (n : Int) ≤ s.size := by omega
        obtain ⟨b2, hb2⟩ : ∃ b, partedL (s.data.toList.drop (p + n)) = b := ⟨_, rfl⟩
        have HP2 : Hid (partedL ((s.data.toList.drop p).drop n) = b2) := Lib.hid (by rw [List.drop_drop]; exact hb2)
        have HP := Lib.hid hb2
        have HQ := Lib.hid hq
        clear hb h59 hl hc c40 c41 c34 hr hlen hb2 hq
        go_wp2_with fail
        refine (text_ref s p n T _ hs hp HQ.out).mono ?_
        rintro e w1 ⟨rfl, hbw⟩
        have h4 : w1.heap[w.heap.size]? = some (.cells #[.int .i64 0, .string ⟨#[]⟩, .int .i64 0] 43 (0, 0)) := (hbw.block _ (by simp; omega)).trans ((heap_old _ _ _ (by simp)).trans (heap_new _ _ _ rfl))
        have h6 : w1.heap[w.heap.size + 1]? = some (.cells #[.int .i64 3, .string ⟨#[]⟩, .int .i64 (p : Int)] 43 (0, 0)) := (hbw.block _ (by simp)).trans (heap_new _ _ _ (by simp))
        have hbw' : Below w.heap.size w w1 := (below_two _ _ _).trans (hbw.mono (by simp; omega))
        have c40 : w1.cell? ⟨w.heap.size, 0, none⟩ = some (.int .i64 0) := (cell_of h4 0).trans rfl
        have c41 : w1.cell? ⟨w.heap.size, 1, none⟩ = some (.string ⟨#[]⟩) := (cell_of h4 1).trans rfl
        have c42 : w1.cell? ⟨w.heap.size, 2, none⟩ = some (.int .i64 0) := (cell_of h4 2).trans rfl
        have c60 : w1.cell? ⟨w.heap.size + 1, 0, none⟩ = some (.int .i64 3) := (cell_of h6 0).trans rfl
        have c61 : w1.cell? ⟨w.heap.size + 1, 1, none⟩ = some (.string ⟨#[]⟩) := (cell_of h6 1).trans rfl
        have c62 : w1.cell? ⟨w.heap.size + 1, 2, none⟩ = some (.int .i64 (p : Int)) := (cell_of h6 2).trans rfl
        have f40 := frozen_of h4 0
        have f41 := frozen_of h4 1
        have f42 := frozen_of h4 2
        have f61 := frozen_of h6 1
        have H4 := Lib.hid h4
        have H6 := Lib.hid h6
        have HBw := Lib.hid hbw'
        clear hbw h4 h6 hbw'
        cases b2
        all_goals
          go_wp2_with fail
          refine (parted_any s _ (p + n) _ _ (by omega) hs hn HP.out).mono ?_
          rintro e w2 ⟨rfl, rfl⟩
          go_wp2_with fail
          have h3 : (((w1.setCell ⟨w.heap.size + 1, 1, none⟩ (.string (bs T))).setCell ⟨w.heap.size, 0, none⟩ (.int .i64 3)).setCell ⟨w.heap.size, 1, none⟩ (.string (bs T))).setCell ⟨w.heap.size, 2, none⟩ (.int .i64 (p : Int)) |>.heap[w.heap.size]? = some (.cells #[.int .i64 3, .string (bs T), .int .i64 (p : Int)] 43 (0, 0)) :=
            (heap_set ((heap_set ((heap_set ((heap_set_ne (by omega) _ _).trans H4.out) _ _).trans rfl) _ _).trans rfl) _ _).trans rfl
          refine bodyPost_ret (resOne h3 rfl rfl) rfl (one_fin HI.out (by rfl) HP2.out rfl ?_)
          exact (((HBw.out.setCell (Nat.le_succ _) _).setCell (Nat.le_refl _) _).setCell (Nat.le_refl _) _).setCell (Nat.le_refl _) _
      · have k34 : (((s[p]'hp).toNat : Int) == 34) = false := by rw [hc]; exact bneN (n := 34) (by decide) c34
        have hpl := plain_of c40 c41 c34 h59 hb
        cases hd : digitsL.contains c with
        | true =>
          have HD : Hid (digitsL.contains (s[p]'hp) = true) := Lib.hid (by rw [hc]; exact hd)
          obtain ⟨n, hnn⟩ : ∃ n, numLenL (s.data.toList.drop p) = n := ⟨_, rfl⟩
          have hn : p + n ≤ s.size := by
            have := numLenL_le (s.data.toList.drop p)
            rw [hnn, hlen] at this
            omega
          have hni : (p : Int) + (n : Int) ≤ s.size := by omega
          obtain ⟨tx, htx⟩ : ∃ t, s.extract p (p + n) = t := ⟨_, rfl⟩
          have hsl := slice_any s tx p n (p : Int) ((p : Int) + (n : Int)) rfl rfl hn htx
          have htd : tx.data.toList = (s.data.toList.drop p).take n := by rw [← htx, ext_mid, Nat.add_sub_cancel_left]
          have htz : tx.size ≤ 1000000 := by rw [Lib.size_eq, htd, List.length_take, hlen]; omega
          have hT : OneIs 2 tx.data.toList (if numB tx.data.toList = true then n else 0) (s.data.toList.drop p) := by
            have := one_num (c := c) (r := r) hd
            rw [← hl, hnn, ← htd] at this
            exact this
          obtain ⟨b2, hb2⟩ : ∃ b, partedL (s.data.toList.drop (p + n)) = b := ⟨_, rfl⟩
          have HP2 : Hid (partedL ((s.data.toList.drop p).drop n) = b2) := Lib.hid (by rw [List.drop_drop]; exact hb2)
          have HP := Lib.hid hb2
          have HN := Lib.hid hnn
          cases hB : numB tx.data.toList with
          | true =>
            have HBn := Lib.hid hB
            have HI : Hid (OneIs 2 tx.data.toList n (s.data.toList.drop p)) := Lib.hid (by rw [hB, if_pos rfl] at hT; exact hT)
            clear hB hT htd htx hb2 hnn hb h59 hl hc c40 c41 c34 hr hlen hpl hd
            cases b2
            all_goals
              go_wp2_with fail
              refine (digit_is true _ _ HD.out).mono ?_
              rintro e w1 ⟨rfl, rfl⟩
              go_wp2_with fail
              refine (number_at s p n _ hs (by omega) HN.out).mono ?_
              rintro e w1 ⟨rfl, rfl⟩
              go_wp2_with fail
              refine (refnumber_at tx _ htz true HBn.out).mono ?_
              rintro e w1 ⟨rfl, rfl⟩
              go_wp2_with fail
              refine (parted_any s _ (p + n) _ _ (by omega) hs hn HP.out).mono ?_
              rintro e w2 ⟨rfl, rfl⟩
              go_wp2_with fail
              exact bodyPost_ret (resOne ((heap_old _ _ _ (by simp)).trans (heap_new _ _ _ rfl)) rfl rfl) rfl (one_fin (k := 2) HI.out (by rfl) HP2.out rfl (below_two _ _ _))
          | false =>
            have HBn := Lib.hid hB
            have HI0 : Hid (OneIs 2 tx.data.toList 0 (s.data.toList.drop p)) := Lib.hid (by rw [hB, if_neg (by decide)] at hT; exact hT)
            obtain ⟨b0, hb0⟩ : ∃ b, partedL (s.data.toList.drop p) = b := ⟨_, rfl⟩
            have HP0 := Lib.hid hb0
            have HP02 : Hid (partedL ((s.data.toList.drop p).drop 0) = b0) := Lib.hid hb0
            clear hB hT htd htx hb2 hnn hb h59 hl hc c40 c41 c34 hr hlen hpl hb0 hd
            cases b0
            all_goals
              go_wp2_with fail
              refine (digit_is true _ _ HD.out).mono ?_
              rintro e w1 ⟨rfl, rfl⟩
              go_wp2_with fail
              refine (number_at s p n _ hs (by omega) HN.out).mono ?_
              rintro e w1 ⟨rfl, rfl⟩
              go_wp2_with fail
              refine (refnumber_at tx _ htz false HBn.out).mono ?_
              rintro e w1 ⟨rfl, rfl⟩
              go_wp2_with fail
              refine (parted_any s _ p _ _ (by omega) hs (by omega) HP0.out).mono ?_
              rintro e w2 ⟨rfl, rfl⟩
              go_wp2_with fail
              exact bodyPost_ret (resOne ((heap_old _ _ _ (by simp)).trans (heap_new _ _ _ rfl)) rfl rfl) rfl (one_fin (k := 2) (n := 0) HI0.out (by rfl) HP02.out (by simp) (below_two _ _ _))
        | false =>
          by_cases hm : c = 45 ∧ ∃ h : p + 1 < s.size, digitsL.contains (s[p + 1]'h) = true
          · obtain ⟨c45, h1, hd1⟩ := hm
            have k45 : (((s[p]'hp).toNat : Int) == 45) = true := by rw [hc, c45]; rfl
            have h1i : (p : Int) + 1 < s.size := by omega
            have HD : Hid (digitsL.contains (s[p]'hp) = false) := Lib.hid (by rw [hc]; exact hd)
            have HD1 := Lib.hid hd1
            have hr1 : r = (s[p + 1]'h1) :: s.data.toList.drop (p + 1 + 1) := by rw [← hr]; exact drop_at s (p + 1) h1
            obtain ⟨n, hnn⟩ : ∃ n, numLenL (s.data.toList.drop p) = n := ⟨_, rfl⟩
            have hn : p + n ≤ s.size := by
              have := numLenL_le (s.data.toList.drop p)
              rw [hnn, hlen] at this
              omega
            have hni : (p : Int) + (n : Int) ≤ s.size := by omega
            obtain ⟨tx, htx⟩ : ∃ t, s.extract p (p + n) = t := ⟨_, rfl⟩
            have hsl := slice_any s tx p n (p : Int) ((p : Int) + (n : Int)) rfl rfl hn htx
            have htd : tx.data.toList = (s.data.toList.drop p).take n := by rw [← htx, ext_mid, Nat.add_sub_cancel_left]
            have htz : tx.size ≤ 1000000 := by rw [Lib.size_eq, htd, List.length_take, hlen]; omega
            have hT : OneIs 2 tx.data.toList (if numB tx.data.toList = true then n else 0) (s.data.toList.drop p) := by
              have := one_minus (r := s.data.toList.drop (p + 1 + 1)) hd1
              rw [← hr1, ← c45, ← hl, hnn, ← htd] at this
              exact this
            obtain ⟨b2, hb2⟩ : ∃ b, partedL (s.data.toList.drop (p + n)) = b := ⟨_, rfl⟩
            have HP2 : Hid (partedL ((s.data.toList.drop p).drop n) = b2) := Lib.hid (by rw [List.drop_drop]; exact hb2)
            have HP := Lib.hid hb2
            have HN := Lib.hid hnn
            cases hB : numB tx.data.toList with
            | true =>
              have HBn := Lib.hid hB
              have HI : Hid (OneIs 2 tx.data.toList n (s.data.toList.drop p)) := Lib.hid (by rw [hB, if_pos rfl] at hT; exact hT)
              clear hB hT htd htx hb2 hnn hb h59 hl hc c40 c41 c34 hr hlen hpl hd hd1 c45 hr1
              cases b2
              all_goals
                go_wp2_with fail
                refine (digit_is false _ _ HD.out).mono ?_
                rintro e w1 ⟨rfl, rfl⟩
                go_wp2_with fail
                refine (digit_is true _ _ HD1.out).mono ?_
                rintro e w1 ⟨rfl, rfl⟩
                go_wp2_with fail
                refine (number_at s p n _ hs (by omega) HN.out).mono ?_
                rintro e w1 ⟨rfl, rfl⟩
                go_wp2_with fail
                refine (refnumber_at tx _ htz true HBn.out).mono ?_
                rintro e w1 ⟨rfl, rfl⟩
                go_wp2_with fail
                refine (parted_any s _ (p + n) _ _ (by omega) hs hn HP.out).mono ?_
                rintro e w2 ⟨rfl, rfl⟩
                go_wp2_with fail
                exact bodyPost_ret (resOne ((heap_old _ _ _ (by simp)).trans (heap_new _ _ _ rfl)) rfl rfl) rfl (one_fin (k := 2) HI.out (by rfl) HP2.out rfl (below_two _ _ _))
            | false =>
              have HBn := Lib.hid hB
              have HI0 : Hid (OneIs 2 tx.data.toList 0 (s.data.toList.drop p)) := Lib.hid (by rw [hB, if_neg (by decide)] at hT; exact hT)
              obtain ⟨b0, hb0⟩ : ∃ b, partedL (s.data.toList.drop p) = b := ⟨_, rfl⟩
              have HP0 := Lib.hid hb0
              have HP02 : Hid (partedL ((s.data.toList.drop p).drop 0) = b0) := Lib.hid hb0
              clear hB hT htd htx hb2 hnn hb h59 hl hc c40 c41 c34 hr hlen hpl hb0 hd hd1 c45 hr1
              cases b0
              all_goals
                go_wp2_with fail
                refine (digit_is false _ _ HD.out).mono ?_
                rintro e w1 ⟨rfl, rfl⟩
                go_wp2_with fail
                refine (digit_is true _ _ HD1.out).mono ?_
                rintro e w1 ⟨rfl, rfl⟩
                go_wp2_with fail
                refine (number_at s p n _ hs (by omega) HN.out).mono ?_
                rintro e w1 ⟨rfl, rfl⟩
                go_wp2_with fail
                refine (refnumber_at tx _ htz false HBn.out).mono ?_
                rintro e w1 ⟨rfl, rfl⟩
                go_wp2_with fail
                refine (parted_any s _ p _ _ (by omega) hs (by omega) HP0.out).mono ?_
                rintro e w2 ⟨rfl, rfl⟩
                go_wp2_with fail
                exact bodyPost_ret (resOne ((heap_old _ _ _ (by simp)).trans (heap_new _ _ _ rfl)) rfl rfl) rfl (one_fin (k := 2) (n := 0) HI0.out (by rfl) HP02.out (by simp) (below_two _ _ _))
          · cases hL : lettersL.contains c with
            | true =>
              have HD : Hid (digitsL.contains (s[p]'hp) = false) := Lib.hid (by rw [hc]; exact hd)
              have HLt : Hid (lettersL.contains (s[p]'hp) = true) := Lib.hid (by rw [hc]; exact hL)
              obtain ⟨n, hnn⟩ : ∃ n, namedL (s.data.toList.drop p) = n := ⟨_, rfl⟩
              have hn : p + n ≤ s.size := by
                have := namedL_le (s.data.toList.drop p)
                rw [hnn, hlen] at this
                omega
              have hni : (p : Int) + (n : Int) ≤ s.size := by omega
              obtain ⟨tx, htx⟩ : ∃ t, s.extract p (p + n) = t := ⟨_, rfl⟩
              have hsl := slice_any s tx p n (p : Int) ((p : Int) + (n : Int)) rfl rfl hn htx
              have htd : tx.data.toList = (s.data.toList.drop p).take n := by rw [← htx, ext_mid, Nat.add_sub_cancel_left]
              have htz : tx.size ≤ 1000000 := by rw [Lib.size_eq, htd, List.length_take, hlen]; omega
              have hT : OneIs 4 tx.data.toList n (s.data.toList.drop p) := by
                have := one_name (r := r) hL
                rw [← hl, hnn] at this
                rw [htd]; exact this
              obtain ⟨b2, hb2⟩ : ∃ b, partedL (s.data.toList.drop (p + n)) = b := ⟨_, rfl⟩
              have HP2 : Hid (partedL ((s.data.toList.drop p).drop n) = b2) := Lib.hid (by rw [List.drop_drop]; exact hb2)
              have HP := Lib.hid hb2
              have HN := Lib.hid hnn
              have HI := Lib.hid hT
              by_cases c45 : c = 45
              · have k45 : (((s[p]'hp).toNat : Int) == 45) = true := by rw [hc, c45]; rfl
                by_cases h1 : p + 1 < s.size
                · have h1i : (p : Int) + 1 < s.size := by omega
                  have HD1 : Hid (digitsL.contains (s[p + 1]'h1) = false) := Lib.hid (by
                    cases hx : digitsL.contains (s[p + 1]'h1) with
                    | false => rfl
                    | true => exact absurd ⟨c45, h1, hx⟩ hm)
                  clear c45 hT htd htx hb2 hnn hb h59 hl hc c40 c41 c34 hr hlen hpl hd hL hm
                  cases b2
                  all_goals
                    go_wp2_with fail
                    refine (digit_is false _ _ HD.out).mono ?_
                    rintro e w1 ⟨rfl, rfl⟩
                    go_wp2_with fail
                    refine (digit_is false _ _ HD1.out).mono ?_
                    rintro e w1 ⟨rfl, rfl⟩
                    go_wp2_with fail
                    refine (letter_is true _ _ HLt.out).mono ?_
                    rintro e w1 ⟨rfl, rfl⟩
                    go_wp2_with fail
                    refine (name_at s p n _ hs (by omega) HN.out).mono ?_
                    rintro e w1 ⟨rfl, rfl⟩
                    go_wp2_with fail
                    refine (parted_any s _ (p + n) _ _ (by omega) hs hn HP.out).mono ?_
                    rintro e w2 ⟨rfl, rfl⟩
                    go_wp2_with fail
                    exact bodyPost_ret (resOne ((heap_old _ _ _ (by simp)).trans (heap_new _ _ _ rfl)) rfl rfl) rfl (one_fin (k := 4) HI.out (by rfl) HP2.out rfl (below_two _ _ _))
                · have h1i : (s.size : Int) ≤ (p : Int) + 1 := by omega
                  clear c45 hT htd htx hb2 hnn hb h59 hl hc c40 c41 c34 hr hlen hpl hd hL hm
                  cases b2
                  all_goals
                    go_wp2_with fail
                    refine (digit_is false _ _ HD.out).mono ?_
                    rintro e w1 ⟨rfl, rfl⟩
                    go_wp2_with fail
                    refine (letter_is true _ _ HLt.out).mono ?_
                    rintro e w1 ⟨rfl, rfl⟩
                    go_wp2_with fail
                    refine (name_at s p n _ hs (by omega) HN.out).mono ?_
                    rintro e w1 ⟨rfl, rfl⟩
                    go_wp2_with fail
                    refine (parted_any s _ (p + n) _ _ (by omega) hs hn HP.out).mono ?_
                    rintro e w2 ⟨rfl, rfl⟩
                    go_wp2_with fail
                    exact bodyPost_ret (resOne ((heap_old _ _ _ (by simp)).trans (heap_new _ _ _ rfl)) rfl rfl) rfl (one_fin (k := 4) HI.out (by rfl) HP2.out rfl (below_two _ _ _))
              · have k45 : (((s[p]'hp).toNat : Int) == 45) = false := by rw [hc]; exact bneN (n := 45) (by decide) c45
                clear c45 hT htd htx hb2 hnn hb h59 hl hc c40 c41 c34 hr hlen hpl hd hL hm
                cases b2
                all_goals
                  go_wp2_with fail
                  refine (digit_is false _ _ HD.out).mono ?_
                  rintro e w1 ⟨rfl, rfl⟩
                  go_wp2_with fail
                  refine (letter_is true _ _ HLt.out).mono ?_
                  rintro e w1 ⟨rfl, rfl⟩
                  go_wp2_with fail
                  refine (name_at s p n _ hs (by omega) HN.out).mono ?_
                  rintro e w1 ⟨rfl, rfl⟩
                  go_wp2_with fail
                  refine (parted_any s _ (p + n) _ _ (by omega) hs hn HP.out).mono ?_
                  rintro e w2 ⟨rfl, rfl⟩
                  go_wp2_with fail
                  exact bodyPost_ret (resOne ((heap_old _ _ _ (by simp)).trans (heap_new _ _ _ rfl)) rfl rfl) rfl (one_fin (k := 4) HI.out (by rfl) HP2.out rfl (below_two _ _ _))
            | false =>
              have HD : Hid (digitsL.contains (s[p]'hp) = false) := Lib.hid (by rw [hc]; exact hd)
              have HLt : Hid (lettersL.contains (s[p]'hp) = false) := Lib.hid (by rw [hc]; exact hL)
              have hmz : c = 45 → runL digitsL r = 0 := fun h45 => by
                by_cases h1 : p + 1 < s.size
                · rw [← hr, drop_at s (p + 1) h1, runL_cons]
                  cases hx : digitsL.contains (s[p + 1]'h1) with
                  | false => rfl
                  | true => exact absurd ⟨h45, h1, hx⟩ hm
                · rw [← hr, List.drop_of_length_le (by rw [← Lib.size_eq]; omega)]; rfl
              obtain ⟨n, hnn⟩ : ∃ n, signL (s.data.toList.drop p) = n := ⟨_, rfl⟩
              have hn : p + n ≤ s.size := by
                have := signL_le (s.data.toList.drop p)
                rw [hnn, hlen] at this
                omega
              have hni : (p : Int) + (n : Int) ≤ s.size := by omega
              obtain ⟨tx, htx⟩ : ∃ t, s.extract p (p + n) = t := ⟨_, rfl⟩
              have hsl := slice_any s tx p n (p : Int) ((p : Int) + (n : Int)) rfl rfl hn htx
              have htd : tx.data.toList = (s.data.toList.drop p).take n := by rw [← htx, ext_mid, Nat.add_sub_cancel_left]
              have htz : tx.size ≤ 1000000 := by rw [Lib.size_eq, htd, List.length_take, hlen]; omega
              have hT : OneIs 5 tx.data.toList n (s.data.toList.drop p) := by
                have := one_sign (r := r) hpl hd hmz hL
                rw [← hl, hnn] at this
                rw [htd]; exact this
              obtain ⟨b2, hb2⟩ : ∃ b, partedL (s.data.toList.drop (p + n)) = b := ⟨_, rfl⟩
              have HP2 : Hid (partedL ((s.data.toList.drop p).drop n) = b2) := Lib.hid (by rw [List.drop_drop]; exact hb2)
              have HP := Lib.hid hb2
              have HN := Lib.hid hnn
              have HI := Lib.hid hT
              by_cases c45 : c = 45
              · have k45 : (((s[p]'hp).toNat : Int) == 45) = true := by rw [hc, c45]; rfl
                by_cases h1 : p + 1 < s.size
                · have h1i : (p : Int) + 1 < s.size := by omega
                  have HD1 : Hid (digitsL.contains (s[p + 1]'h1) = false) := Lib.hid (by
                    cases hx : digitsL.contains (s[p + 1]'h1) with
                    | false => rfl
                    | true => exact absurd ⟨c45, h1, hx⟩ hm)
                  clear c45 hT htd htx hb2 hnn hb h59 hl hc c40 c41 c34 hr hlen hpl hd hL hm hmz
                  cases b2
                  all_goals
                    go_wp2_with fail
                    refine (digit_is false _ _ HD.out).mono ?_
                    rintro e w1 ⟨rfl, rfl⟩
                    go_wp2_with fail
                    refine (digit_is false _ _ HD1.out).mono ?_
                    rintro e w1 ⟨rfl, rfl⟩
                    go_wp2_with fail
                    refine (letter_is false _ _ HLt.out).mono ?_
                    rintro e w1 ⟨rfl, rfl⟩
                    go_wp2_with fail
                    refine (sign_ref s p n _ hs hp HN.out).mono ?_
                    rintro e w1 ⟨rfl, rfl⟩
                    go_wp2_with fail
                    refine (parted_any s _ (p + n) _ _ (by omega) hs hn HP.out).mono ?_
                    rintro e w2 ⟨rfl, rfl⟩
                    go_wp2_with fail
                    exact bodyPost_ret (resOne ((heap_old _ _ _ (by simp)).trans (heap_new _ _ _ rfl)) rfl rfl) rfl (one_fin (k := 5) HI.out (by rfl) HP2.out rfl (below_two _ _ _))
                · have h1i : (s.size : Int) ≤ (p : Int) + 1 := by omega
                  clear c45 hT htd htx hb2 hnn hb h59 hl hc c40 c41 c34 hr hlen hpl hd hL hm hmz
                  cases b2
                  all_goals
                    go_wp2_with fail
                    refine (digit_is false _ _ HD.out).mono ?_
                    rintro e w1 ⟨rfl, rfl⟩
                    go_wp2_with fail
                    refine (letter_is false _ _ HLt.out).mono ?_
                    rintro e w1 ⟨rfl, rfl⟩
                    go_wp2_with fail
                    refine (sign_ref s p n _ hs hp HN.out).mono ?_
                    rintro e w1 ⟨rfl, rfl⟩
                    go_wp2_with fail
                    refine (parted_any s _ (p + n) _ _ (by omega) hs hn HP.out).mono ?_
                    rintro e w2 ⟨rfl, rfl⟩
                    go_wp2_with fail
                    exact bodyPost_ret (resOne ((heap_old _ _ _ (by simp)).trans (heap_new _ _ _ rfl)) rfl rfl) rfl (one_fin (k := 5) HI.out (by rfl) HP2.out rfl (below_two _ _ _))
              · have k45 : (((s[p]'hp).toNat : Int) == 45) = false := by rw [hc]; exact bneN (n := 45) (by decide) c45
                clear c45 hT htd htx hb2 hnn hb h59 hl hc c40 c41 c34 hr hlen hpl hd hL hm hmz
                cases b2
                all_goals
                  go_wp2_with fail
                  refine (digit_is false _ _ HD.out).mono ?_
                  rintro e w1 ⟨rfl, rfl⟩
                  go_wp2_with fail
                  refine (letter_is false _ _ HLt.out).mono ?_
                  rintro e w1 ⟨rfl, rfl⟩
                  go_wp2_with fail
                  refine (sign_ref s p n _ hs hp HN.out).mono ?_
                  rintro e w1 ⟨rfl, rfl⟩
                  go_wp2_with fail
                  refine (parted_any s _ (p + n) _ _ (by omega) hs hn HP.out).mono ?_
                  rintro e w2 ⟨rfl, rfl⟩
                  go_wp2_with fail
                  exact bodyPost_ret (resOne ((heap_old _ _ _ (by simp)).trans (heap_new _ _ _ rfl)) rfl rfl) rfl (one_fin (k := 5) HI.out (by rfl) HP2.out rfl (below_two _ _ _))
end Go.Proofs.YtndejiminaopeaaDoor
