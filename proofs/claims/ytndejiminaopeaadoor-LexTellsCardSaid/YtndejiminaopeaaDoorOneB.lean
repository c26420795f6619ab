/- lex.one by its contract. -/
import Derived.Test.YtndejiminaopeaaDoorOne
namespace Go.Proofs.YtndejiminaopeaaDoor
open Go.RowKit

/-- The token's box: its kind and text as a reader has left them. -/
def TokAt (w : World) (b : Nat) (t : Nat × List UInt8 × Nat) : Prop := w.heap[b]? = some (.cells #[.int .i64 (t.1 : Int), .string (bs t.2.1), .int .i64 0] 43 (0, 0))

theorem tok_set {w : World} {b : Nat} {t : Nat × List UInt8 × Nat} (h : TokAt w b t) {k : Int} {kn : Nat} {tx : List UInt8} {n : Nat} (hk : (kn : Int) = k) :
    TokAt ((w.setCell ⟨b, 0, none⟩ (.int .i64 k)).setCell ⟨b, 1, none⟩ (.string (bs tx))) b (kn, tx, n) := by
  subst hk
  exact heap_set (heap_set h 0 _) 1 _
theorem readL_hit {l : List UInt8} {j : Nat} (h5 : j ≤ 5) (h0 : ∀ i, i < j → (rdL i l).2.2 = 0) (h1 : 0 < (rdL j l).2.2) : readL l = rdL j l := by
  unfold readL
  have hz : ∀ i, i < j → ¬ 0 < (rdL i l).2.2 := fun i hi => by rw [h0 i hi]; omega
  match j, h5 with
  | 0, _ => rw [if_pos h1]
  | 1, _ => rw [if_neg (hz 0 (by omega)), if_pos h1]
  | 2, _ => rw [if_neg (hz 0 (by omega)), if_neg (hz 1 (by omega)), if_pos h1]
  | 3, _ => rw [if_neg (hz 0 (by omega)), if_neg (hz 1 (by omega)), if_neg (hz 2 (by omega)), if_pos h1]
  | 4, _ => rw [if_neg (hz 0 (by omega)), if_neg (hz 1 (by omega)), if_neg (hz 2 (by omega)), if_neg (hz 3 (by omega)), if_pos h1]
  | 5, _ => rw [if_neg (hz 0 (by omega)), if_neg (hz 1 (by omega)), if_neg (hz 2 (by omega)), if_neg (hz 3 (by omega)), if_neg (hz 4 (by omega))]
theorem readL_miss {l : List UInt8} (h0 : ∀ i, i < 6 → (rdL i l).2.2 = 0) : readL l = rdL 5 l := by
  unfold readL
  have hz : ∀ i, i < 6 → ¬ 0 < (rdL i l).2.2 := fun i hi => by rw [h0 i hi]; omega
  rw [if_neg (hz 0 (by omega)), if_neg (hz 1 (by omega)), if_neg (hz 2 (by omega)), if_neg (hz 3 (by omega)), if_neg (hz 4 (by omega))]
theorem ext_one (s : ByteArray) (n : Nat) (h : n < s.size) : s.extract n (n + 1) = ⟨#[s[n]]⟩ := by
  rw [extract_bs, drop_at s n h]
  simp [bs]
theorem Contains_any (s : ByteArray) (c : UInt8) (w : World) :
    Calls Tryd.prog 56 #[.string s, .string ⟨#[c]⟩] w fun e w' => ∃ q : Bool, e = .returned (.bool q) ∧ Hid (q = decide (0 ≤ Lib.indexByte s.data.toList c)) ∧ w = w' :=
  (Tryd.strings_Contains_one s c w).mono fun _ _ ⟨h1, h2⟩ => ⟨_, h1, Lib.hid rfl, h2.symm⟩
theorem brL_le (c : UInt8) {l : List UInt8} (h : l ≠ []) : brL c l ≤ l.length := by
  have h0 : 0 < l.length := List.length_pos_iff.2 h
  unfold brL
  split <;> omega
theorem signL_le (l : List UInt8) : signL l ≤ l.length := by
  rcases h : signAt l with _ | k
  · rw [signL_none h]; omega
  · rw [signL_some h]
    have hk := signAt_lt h
    unfold signAt at h
    rw [List.findIdx?_eq_some_iff_getElem] at h
    obtain ⟨_, hp, _⟩ := h
    rw [getD_at _ _ (show k < signs.length from hk)]
    unfold Lib.hasPrefix at hp
    exact (List.isPrefixOf_iff_prefix.1 hp).length_le
theorem intL_le (l : List UInt8) : intL l ≤ l.length := by
  unfold intL
  dsimp only
  have h1 := runL_le digitsL (l.drop (l.length - (Lib.trimPrefix l [45]).length))
  rw [List.length_drop] at h1
  split
  · split
    · omega
    · omega
  · omega
theorem textL_le {l : List UInt8} (h : l ≠ []) : (textL l).2.2 ≤ l.length := by
  unfold textL
  split
  · exact quotL_le l h
  · simp
theorem readL_le (l : List UInt8) (h : l ≠ []) : (readL l).2.2 ≤ l.length := by
  unfold readL
  split
  · exact brL_le 40 h
  · split
    · exact brL_le 41 h
    · split
      · exact textL_le h
      · split
        · exact intL_le l
        · split
          · exact namedL_le l
          · exact signL_le l
set_option maxRecDepth 100000 in
set_option maxHeartbeats 4000000 in
theorem one_calls (s : ByteArray) (w : World) (hs : s.size ≤ 140737488355000) (h1 : 0 < s.size) :
    Calls Tryd.prog 40 #[.string s] w fun e w' => e = .returned (.tuple #[.agg #[.int .i64 ((oneL s.data.toList).1 : Nat), .string (bs (oneL s.data.toList).2.1), .int .i64 0], .int .i64 ((oneL s.data.toList).2.2 : Nat)]) ∧ Below w.heap.size w w' := by
  go_enter Tryd.func40, Tryd.ntmps40
  go_upto_block 0 with (go_at_call 55; refine (kinds_calls _).mono ?_; rintro e w1 ⟨rfl, hk1, hb1⟩)
  have hk2 : KindsAt w1 (w.heap.size + 1) := by simpa using hk1
  have hB1 : Below (w.heap.size + 1) (w.alloc (.cells #[.int .i64 0, .string ⟨#[]⟩, .int .i64 0] 43)) w1 := by simpa using hb1
  have hT1 : TokAt w1 w.heap.size (0, [], 0) := (hB1.block _ (by omega)).trans (heap_new _ _ _ rfl)
  have hB : Below w.heap.size w w1 := ((Below.refl _ w).alloc (Nat.le_refl _) _).trans (hB1.mono (by omega))
  clear hk1 hb1 hB1
  go_cut [3] (fun v3 wx => v3 = .int .i64 ((readL s.data.toList).2.2 : Nat) ∧ TokAt wx w.heap.size (readL s.data.toList) ∧ Below w.heap.size w wx)
  case first =>
    have hl : s.data.toList ≠ [] := by intro h; rw [Lib.size_eq, h] at h1; simp at h1
    obtain ⟨l, hL0⟩ : ∃ l, s.data.toList = l := ⟨_, rfl⟩
    have hL := Lib.hid hL0
    rw [hL0] at hl
    clear hL0
    go_wp2_with fail
    go_loopw [3, 9] (fun v3 v9 wx => ∃ (j : Int) (t : Nat × List UInt8 × Nat), v9 = .int .i64 j ∧ 0 ≤ j ∧ j ≤ 6 ∧ v3 = .int .i64 0 ∧ Hid (∀ i : Nat, i < j.toNat → (rdL i l).2.2 = 0) ∧ Hid (j = 6 → t = rdL 5 l) ∧ TokAt wx w.heap.size t ∧ KindsAt wx (w.heap.size + 1) ∧ Below w.heap.size w wx) (fun _ v9 _ => 6 - (intOf v9).toNat)
    case atStart => exact ⟨0, (0, [], 0), rfl, by omega, by omega, rfl, Lib.hid fun i hi => absurd hi (Nat.not_lt_zero _), Lib.hid (fun h => by cases h), hT1, hk2, hB⟩
    case round =>
      obtain ⟨j, t, rfl, hj0, hj6, rfl, Hj, Ht6, hT, hK, hBx⟩ := hrel
      rcases (by omega : j = 0 ∨ j = 1 ∨ j = 2 ∨ j = 3 ∨ j = 4 ∨ j = 5 ∨ j = 6) with rfl | rfl | rfl | rfl | rfl | rfl | rfl
      · have hc := cell_of hK.2.2.2.2.2.2.2.2.2.2 0
        go_wp2_with fail
        refine (bracket_calls s 40 0 _ _ _ (by omega) (by omega) (by decide) ((cell_of hK.1 0).trans rfl) ((cell_of hK.2.1 0).trans rfl)).mono ?_
        rintro e w2 ⟨rfl, hb2⟩
        rw [hL.out]
        obtain ⟨n, hn⟩ : ∃ n, brL 40 l = n := ⟨_, rfl⟩
        have Hr : Hid (rdL 0 l = (0, [], n)) := Lib.hid (by rw [← hn]; rfl)
        rw [hn]
        clear hn
        have hT2 : TokAt w2 w.heap.size t := below_lt hb2 hT
        have hK2 := hK.below hb2
        have hB2 := hBx.trans (hb2.mono hBx.size)
        have c0 := (cell_of hT2 0).trans rfl
        have c1 := (cell_of hT2 1).trans rfl
        have f0 := frozen_of hT2 0
        have f1 := frozen_of hT2 1
        clear hc hK hT hBx hb2
        by_cases hn0 : 0 < n
        · have hn0i : (0 : Int) < n := by omega
          go_wp2_with fail
          go_meet
          have hrd : readL s.data.toList = rdL 0 l := by rw [hL.out]; exact readL_hit (by omega) Hj.out (by rw [Hr.out]; exact hn0)
          rw [hrd, Hr.out]
          exact ⟨rfl, tok_set hT2 rfl, (hB2.setCell (p := ⟨w.heap.size, 0, none⟩) (Nat.le_refl _) _).setCell (p := ⟨w.heap.size, 1, none⟩) (Nat.le_refl _) _⟩
        · have hn0i : (n : Int) ≤ 0 := by omega
          go_wp2_with fail
          go_roundw
          case rel =>
            obtain rfl : n = 0 := by omega
            refine ⟨0 + 1, rdL 0 l, by go_num, by omega, by omega, rfl, Lib.hid fun i hi => ?_, Lib.hid fun h => ?_, ?_, (hK2.set (by omega) 0 _).set (by omega) 1 _, (hB2.setCell (p := ⟨w.heap.size, 0, none⟩) (Nat.le_refl _) _).setCell (p := ⟨w.heap.size, 1, none⟩) (Nat.le_refl _) _⟩
            · rcases Nat.lt_or_ge i 0 with h | h
              · exact Hj.out i h
              · obtain rfl : i = 0 := by simp at hi; omega
                rw [Hr.out]
            · omega
            · rw [Hr.out]; exact tok_set hT2 rfl
          case measure => simp [intOf]
      · have hc := cell_of hK.2.2.2.2.2.2.2.2.2.2 1
        go_wp2_with fail
        refine (bracket_calls s 41 1 _ _ _ (by omega) (by omega) (by decide) ((cell_of hK.2.2.1 0).trans rfl) ((cell_of hK.2.2.2.1 0).trans rfl)).mono ?_
        rintro e w2 ⟨rfl, hb2⟩
        rw [hL.out]
        obtain ⟨n, hn⟩ : ∃ n, brL 41 l = n := ⟨_, rfl⟩
        have Hr : Hid (rdL 1 l = (1, [], n)) := Lib.hid (by rw [← hn]; rfl)
        rw [hn]
        clear hn
        have hT2 : TokAt w2 w.heap.size t := below_lt hb2 hT
        have hK2 := hK.below hb2
        have hB2 := hBx.trans (hb2.mono hBx.size)
        have c0 := (cell_of hT2 0).trans rfl
        have c1 := (cell_of hT2 1).trans rfl
        have f0 := frozen_of hT2 0
        have f1 := frozen_of hT2 1
        clear hc hK hT hBx hb2
        by_cases hn0 : 0 < n
        · have hn0i : (0 : Int) < n := by omega
          go_wp2_with fail
          go_meet
          have hrd : readL s.data.toList = rdL 1 l := by rw [hL.out]; exact readL_hit (by omega) Hj.out (by rw [Hr.out]; exact hn0)
          rw [hrd, Hr.out]
          exact ⟨rfl, tok_set hT2 rfl, (hB2.setCell (p := ⟨w.heap.size, 0, none⟩) (Nat.le_refl _) _).setCell (p := ⟨w.heap.size, 1, none⟩) (Nat.le_refl _) _⟩
        · have hn0i : (n : Int) ≤ 0 := by omega
          go_wp2_with fail
          go_roundw
          case rel =>
            obtain rfl : n = 0 := by omega
            refine ⟨1 + 1, rdL 1 l, by go_num, by omega, by omega, rfl, Lib.hid fun i hi => ?_, Lib.hid fun h => ?_, ?_, (hK2.set (by omega) 0 _).set (by omega) 1 _, (hB2.setCell (p := ⟨w.heap.size, 0, none⟩) (Nat.le_refl _) _).setCell (p := ⟨w.heap.size, 1, none⟩) (Nat.le_refl _) _⟩
            · rcases Nat.lt_or_ge i 1 with h | h
              · exact Hj.out i h
              · obtain rfl : i = 1 := by simp at hi; omega
                rw [Hr.out]
            · omega
            · rw [Hr.out]; exact tok_set hT2 rfl
          case measure => simp [intOf]
      · have hc := cell_of hK.2.2.2.2.2.2.2.2.2.2 2
        go_wp2_with fail
        refine (text_calls s _ hs h1).mono ?_
        rintro e w2 ⟨rfl, hb2⟩
        rw [hL.out]
        obtain ⟨n, hn⟩ : ∃ n, (textL l).2.2 = n := ⟨_, rfl⟩
        have Hr : Hid (rdL 2 l = ((textL l).1, (textL l).2.1, n)) := Lib.hid (by rw [← hn]; rfl)
        rw [hn]
        clear hn
        have hT2 : TokAt w2 w.heap.size t := below_lt hb2 hT
        have hK2 := hK.below hb2
        have hB2 := hBx.trans (hb2.mono hBx.size)
        have c0 := (cell_of hT2 0).trans rfl
        have c1 := (cell_of hT2 1).trans rfl
        have f0 := frozen_of hT2 0
        have f1 := frozen_of hT2 1
        clear hc hK hT hBx hb2
        by_cases hn0 : 0 < n
        · have hn0i : (0 : Int) < n := by omega
          go_wp2_with fail
          go_meet
          have hrd : readL s.data.toList = rdL 2 l := by rw [hL.out]; exact readL_hit (by omega) Hj.out (by rw [Hr.out]; exact hn0)
          rw [hrd, Hr.out]
          exact ⟨rfl, tok_set hT2 rfl, (hB2.setCell (p := ⟨w.heap.size, 0, none⟩) (Nat.le_refl _) _).setCell (p := ⟨w.heap.size, 1, none⟩) (Nat.le_refl _) _⟩
        · have hn0i : (n : Int) ≤ 0 := by omega
          go_wp2_with fail
          go_roundw
          case rel =>
            obtain rfl : n = 0 := by omega
            refine ⟨2 + 1, rdL 2 l, by go_num, by omega, by omega, rfl, Lib.hid fun i hi => ?_, Lib.hid fun h => ?_, ?_, (hK2.set (by omega) 0 _).set (by omega) 1 _, (hB2.setCell (p := ⟨w.heap.size, 0, none⟩) (Nat.le_refl _) _).setCell (p := ⟨w.heap.size, 1, none⟩) (Nat.le_refl _) _⟩
            · rcases Nat.lt_or_ge i 2 with h | h
              · exact Hj.out i h
              · obtain rfl : i = 2 := by simp at hi; omega
                rw [Hr.out]
            · omega
            · rw [Hr.out]; exact tok_set hT2 rfl
          case measure => simp [intOf]
      · have hc := cell_of hK.2.2.2.2.2.2.2.2.2.2 3
        go_wp2_with fail
        refine (plain_int s 2 _ _ _ (by omega) ((cell_of hK.2.2.2.2.2.1 0).trans rfl) ((cell_of hK.2.2.2.2.1 0).trans rfl) _ (Lib.hid rfl) (by rw [Lib.size_eq]; exact intL_le _)).mono ?_
        rintro e w2 ⟨rfl, hb2⟩
        rw [hL.out]
        obtain ⟨n, hn⟩ : ∃ n, intL l = n := ⟨_, rfl⟩
        have Hr : Hid (rdL 3 l = (2, l.take n, n)) := Lib.hid (by rw [← hn]; rfl)
        have hx : s.extract 0 (intL l) = bs (l.take (intL l)) := by rw [extract_bs, hL.out]; simp
        rw [hx]
        clear hx
        rw [hn]
        clear hn
        have hT2 : TokAt w2 w.heap.size t := below_lt hb2 hT
        have hK2 := hK.below hb2
        have hB2 := hBx.trans (hb2.mono hBx.size)
        have c0 := (cell_of hT2 0).trans rfl
        have c1 := (cell_of hT2 1).trans rfl
        have f0 := frozen_of hT2 0
        have f1 := frozen_of hT2 1
        clear hc hK hT hBx hb2
        by_cases hn0 : 0 < n
        · have hn0i : (0 : Int) < n := by omega
          go_wp2_with fail
          go_meet
          have hrd : readL s.data.toList = rdL 3 l := by rw [hL.out]; exact readL_hit (by omega) Hj.out (by rw [Hr.out]; exact hn0)
          rw [hrd, Hr.out]
          exact ⟨rfl, tok_set hT2 rfl, (hB2.setCell (p := ⟨w.heap.size, 0, none⟩) (Nat.le_refl _) _).setCell (p := ⟨w.heap.size, 1, none⟩) (Nat.le_refl _) _⟩
        · have hn0i : (n : Int) ≤ 0 := by omega
          go_wp2_with fail
          go_roundw
          case rel =>
            obtain rfl : n = 0 := by omega
            refine ⟨3 + 1, rdL 3 l, by go_num, by omega, by omega, rfl, Lib.hid fun i hi => ?_, Lib.hid fun h => ?_, ?_, (hK2.set (by omega) 0 _).set (by omega) 1 _, (hB2.setCell (p := ⟨w.heap.size, 0, none⟩) (Nat.le_refl _) _).setCell (p := ⟨w.heap.size, 1, none⟩) (Nat.le_refl _) _⟩
            · rcases Nat.lt_or_ge i 3 with h | h
              · exact Hj.out i h
              · obtain rfl : i = 3 := by simp at hi; omega
                rw [Hr.out]
            · omega
            · rw [Hr.out]; exact tok_set hT2 rfl
          case measure => simp [intOf]
      · have hc := cell_of hK.2.2.2.2.2.2.2.2.2.2 4
        go_wp2_with fail
        refine (plain_named s 4 _ _ _ (by omega) ((cell_of hK.2.2.2.2.2.2.2.1 0).trans rfl) ((cell_of hK.2.2.2.2.2.2.1 0).trans rfl) _ (Lib.hid rfl) (by rw [Lib.size_eq]; exact namedL_le _)).mono ?_
        rintro e w2 ⟨rfl, hb2⟩
        rw [hL.out]
        obtain ⟨n, hn⟩ : ∃ n, namedL l = n := ⟨_, rfl⟩
        have Hr : Hid (rdL 4 l = (4, l.take n, n)) := Lib.hid (by rw [← hn]; rfl)
        have hx : s.extract 0 (namedL l) = bs (l.take (namedL l)) := by rw [extract_bs, hL.out]; simp
        rw [hx]
        clear hx
        rw [hn]
        clear hn
        have hT2 : TokAt w2 w.heap.size t := below_lt hb2 hT
        have hK2 := hK.below hb2
        have hB2 := hBx.trans (hb2.mono hBx.size)
        have c0 := (cell_of hT2 0).trans rfl
        have c1 := (cell_of hT2 1).trans rfl
        have f0 := frozen_of hT2 0
        have f1 := frozen_of hT2 1
        clear hc hK hT hBx hb2
        by_cases hn0 : 0 < n
        · have hn0i : (0 : Int) < n := by omega
          go_wp2_with fail
          go_meet
          have hrd : readL s.data.toList = rdL 4 l := by rw [hL.out]; exact readL_hit (by omega) Hj.out (by rw [Hr.out]; exact hn0)
          rw [hrd, Hr.out]
          exact ⟨rfl, tok_set hT2 rfl, (hB2.setCell (p := ⟨w.heap.size, 0, none⟩) (Nat.le_refl _) _).setCell (p := ⟨w.heap.size, 1, none⟩) (Nat.le_refl _) _⟩
        · have hn0i : (n : Int) ≤ 0 := by omega
          go_wp2_with fail
          go_roundw
          case rel =>
            obtain rfl : n = 0 := by omega
            refine ⟨4 + 1, rdL 4 l, by go_num, by omega, by omega, rfl, Lib.hid fun i hi => ?_, Lib.hid fun h => ?_, ?_, (hK2.set (by omega) 0 _).set (by omega) 1 _, (hB2.setCell (p := ⟨w.heap.size, 0, none⟩) (Nat.le_refl _) _).setCell (p := ⟨w.heap.size, 1, none⟩) (Nat.le_refl _) _⟩
            · rcases Nat.lt_or_ge i 4 with h | h
              · exact Hj.out i h
              · obtain rfl : i = 4 := by simp at hi; omega
                rw [Hr.out]
            · omega
            · rw [Hr.out]; exact tok_set hT2 rfl
          case measure => simp [intOf]
      · have hc := cell_of hK.2.2.2.2.2.2.2.2.2.2 5
        go_wp2_with fail
        refine (plain_sign s 5 _ _ _ (by omega) ((cell_of hK.2.2.2.2.2.2.2.2.2.1 0).trans rfl) ((cell_of hK.2.2.2.2.2.2.2.2.1 0).trans rfl) _ (Lib.hid rfl) (by rw [Lib.size_eq]; exact signL_le _)).mono ?_
        rintro e w2 ⟨rfl, hb2⟩
        rw [hL.out]
        obtain ⟨n, hn⟩ : ∃ n, signL l = n := ⟨_, rfl⟩
        have Hr : Hid (rdL 5 l = (5, l.take n, n)) := Lib.hid (by rw [← hn]; rfl)
        have hx : s.extract 0 (signL l) = bs (l.take (signL l)) := by rw [extract_bs, hL.out]; simp
        rw [hx]
        clear hx
        rw [hn]
        clear hn
        have hT2 : TokAt w2 w.heap.size t := below_lt hb2 hT
        have hK2 := hK.below hb2
        have hB2 := hBx.trans (hb2.mono hBx.size)
        have c0 := (cell_of hT2 0).trans rfl
        have c1 := (cell_of hT2 1).trans rfl
        have f0 := frozen_of hT2 0
        have f1 := frozen_of hT2 1
        clear hc hK hT hBx hb2
        by_cases hn0 : 0 < n
        · have hn0i : (0 : Int) < n := by omega
          go_wp2_with fail
          go_meet
          have hrd : readL s.data.toList = rdL 5 l := by rw [hL.out]; exact readL_hit (by omega) Hj.out (by rw [Hr.out]; exact hn0)
          rw [hrd, Hr.out]
          exact ⟨rfl, tok_set hT2 rfl, (hB2.setCell (p := ⟨w.heap.size, 0, none⟩) (Nat.le_refl _) _).setCell (p := ⟨w.heap.size, 1, none⟩) (Nat.le_refl _) _⟩
        · have hn0i : (n : Int) ≤ 0 := by omega
          go_wp2_with fail
          go_roundw
          case rel =>
            obtain rfl : n = 0 := by omega
            refine ⟨5 + 1, rdL 5 l, by go_num, by omega, by omega, rfl, Lib.hid fun i hi => ?_, Lib.hid fun h => ?_, ?_, (hK2.set (by omega) 0 _).set (by omega) 1 _, (hB2.setCell (p := ⟨w.heap.size, 0, none⟩) (Nat.le_refl _) _).setCell (p := ⟨w.heap.size, 1, none⟩) (Nat.le_refl _) _⟩
            · rcases Nat.lt_or_ge i 5 with h | h
              · exact Hj.out i h
              · obtain rfl : i = 5 := by simp at hi; omega
                rw [Hr.out]
            · rfl
            · rw [Hr.out]; exact tok_set hT2 rfl
          case measure => simp [intOf]
      · go_wp2_with fail
        go_meet
        have hrd : readL s.data.toList = rdL 5 l := by rw [hL.out]; exact readL_miss Hj.out
        have h5 : (rdL 5 l).2.2 = 0 := Hj.out 5 (by decide)
        rw [hrd, h5]
        refine ⟨rfl, ?_, hBx⟩
        rw [← Ht6.out trivial]; exact hT
  case rest =>
    obtain ⟨rfl, hT, hBx⟩ := hcut
    have hle := readL_le s.data.toList (by intro h; rw [Lib.size_eq, h] at h1; simp at h1)
    rw [← Lib.size_eq] at hle
    have Ho : Hid (oneL s.data.toList = if 0 < (readL s.data.toList).2.2 ∧ (readL s.data.toList).1 ≠ 0 ∧ (readL s.data.toList).1 ≠ 1 ∧ partedL (s.data.toList.drop (readL s.data.toList).2.2) = false then ((readL s.data.toList).1, (readL s.data.toList).2.1, 0) else readL s.data.toList) := Lib.hid rfl
    obtain ⟨t, ht⟩ : ∃ t, readL s.data.toList = t := ⟨_, rfl⟩
    rw [ht] at hT hle Ho ⊢
    clear ht hk2 hT1 hB
    obtain ⟨k, tx, n⟩ := t
    have c0 : wc.cell? ⟨w.heap.size, 0, none⟩ = some (.int .i64 (k : Int)) := (cell_of hT 0).trans rfl
    have c1 : wc.cell? ⟨w.heap.size, 1, none⟩ = some (.string (bs tx)) := (cell_of hT 1).trans rfl
    have c2 : wc.cell? ⟨w.heap.size, 2, none⟩ = some (.int .i64 0) := (cell_of hT 2).trans rfl
    have f0 := frozen_of hT 0
    have f1 := frozen_of hT 1
    have f2 := frozen_of hT 2
    dsimp only at hle Ho ⊢
    by_cases hlt : n < s.size
    · have hx : s.extract n (n + 1) = ⟨#[s[n]'hlt]⟩ := ext_one s n hlt
      have hlti : (n : Int) < s.size := by omega
      have hlti2 : (n : Int) + 1 ≤ s.size := by omega
      have hnat : ((n : Int) + 1).toNat = n + 1 := by omega
      have hsl : ∀ wx, (Instr.slice 9 (.string s) (some (.int .i64 (n : Int))) (some (.int .i64 ((n : Int) + 1))) none).run Tryd.prog wx = .ok (.string ⟨#[s[n]'hlt]⟩) wx := fun wx => by
        rw [run_slice_string wx _ _ _ _ _ _ Tryd.underlying9 (by omega) (by omega) hlti2, hnat, ← hx]; rfl
      clear hx hnat
      have Hd : Hid (s.data.toList.drop n = (s[n]'hlt) :: s.data.toList.drop (n + 1)) := Lib.hid (drop_at s n hlt)
      have Hp : Hid (partedL (s.data.toList.drop n) = decide (0 ≤ Lib.indexByte endsL (s[n]'hlt))) := Lib.hid (by rw [Hd.out]; rfl)
      go_wp2_with (go_at_call 56; refine (Contains_any _ _ _).mono ?_; rintro e w9 ⟨q, rfl, Hq, rfl⟩)
      · refine bodyPost_ret (v := .tuple #[.agg #[.int .i64 (k : Int), .string (bs tx), .int .i64 0], .int .i64 (n : Int)]) (by simp [results, Tryd.results40, go_sem, c0, c1, c2] <;> omega) rfl ⟨?_, ((hBx.setCell (p := ⟨w.heap.size, 0, none⟩) (Nat.le_refl _) _).setCell (p := ⟨w.heap.size, 1, none⟩) (Nat.le_refl _) _).setCell (p := ⟨w.heap.size, 2, none⟩) (Nat.le_refl _) _⟩
        rw [Ho.out, if_neg (by intro h; exact h.2.1 (by assumption))]
      · refine bodyPost_ret (v := .tuple #[.agg #[.int .i64 (k : Int), .string (bs tx), .int .i64 0], .int .i64 (n : Int)]) (by simp [results, Tryd.results40, go_sem, c0, c1, c2] <;> omega) rfl ⟨?_, ((hBx.setCell (p := ⟨w.heap.size, 0, none⟩) (Nat.le_refl _) _).setCell (p := ⟨w.heap.size, 1, none⟩) (Nat.le_refl _) _).setCell (p := ⟨w.heap.size, 2, none⟩) (Nat.le_refl _) _⟩
        rw [Ho.out, if_neg (by intro h; exact absurd h.1 (by assumption))]
      · refine bodyPost_ret (v := .tuple #[.agg #[.int .i64 (k : Int), .string (bs tx), .int .i64 0], .int .i64 (n : Int)]) (by simp [results, Tryd.results40, go_sem, c0, c1, c2] <;> omega) rfl ⟨?_, ((hBx.setCell (p := ⟨w.heap.size, 0, none⟩) (Nat.le_refl _) _).setCell (p := ⟨w.heap.size, 1, none⟩) (Nat.le_refl _) _).setCell (p := ⟨w.heap.size, 2, none⟩) (Nat.le_refl _) _⟩
        have hk1 : (k : Int) = 1 := by assumption
        rw [Ho.out, if_neg (by intro h; exact h.2.2.1 (by omega))]
      · refine bodyPost_ret (v := .tuple #[.agg #[.int .i64 (k : Int), .string (bs tx), .int .i64 0], .int .i64 (0 : Int)]) (by simp [results, Tryd.results40, go_sem, c0, c1, c2] <;> omega) rfl ⟨?_, ((hBx.setCell (p := ⟨w.heap.size, 0, none⟩) (Nat.le_refl _) _).setCell (p := ⟨w.heap.size, 1, none⟩) (Nat.le_refl _) _).setCell (p := ⟨w.heap.size, 2, none⟩) (Nat.le_refl _) _⟩
        have hk1 : ¬ (k : Int) = 1 := by assumption
        have hq : ((!(k : Int) == 0) = true ∧ (!(k : Int) == 1) = true) ∧ (!q) = true := by assumption
        have hq2 : q = false := by simpa using hq.2
        rw [Ho.out, if_pos ⟨by assumption, by assumption, by omega, by rw [Hp.out, ← hq2]; exact Hq.out.symm⟩]; rfl
      · refine bodyPost_ret (v := .tuple #[.agg #[.int .i64 (k : Int), .string (bs tx), .int .i64 0], .int .i64 (n : Int)]) (by simp [results, Tryd.results40, go_sem, c0, c1, c2] <;> omega) rfl ⟨?_, ((hBx.setCell (p := ⟨w.heap.size, 0, none⟩) (Nat.le_refl _) _).setCell (p := ⟨w.heap.size, 1, none⟩) (Nat.le_refl _) _).setCell (p := ⟨w.heap.size, 2, none⟩) (Nat.le_refl _) _⟩
        have hk0 : ¬ k = 0 := by assumption
        have hk1 : ¬ (k : Int) = 1 := by assumption
        have hq : ((!(k : Int) == 0) = false ∨ (!(k : Int) == 1) = false) ∨ (!q) = false := by assumption
        have hq2 : q = true := by
          rcases hq with (h | h) | h
          · exact absurd (by simpa using h) hk0
          · exact absurd (by simpa using h) hk1
          · simpa using h
        rw [Ho.out, if_neg (fun h => by have := h.2.2.2; rw [Hp.out] at this; have h3 := Hq.out; rw [hq2] at h3; exact absurd (h3.trans this) (by simp))]
      · refine bodyPost_ret (v := .tuple #[.agg #[.int .i64 (k : Int), .string (bs tx), .int .i64 0], .int .i64 (n : Int)]) (by simp [results, Tryd.results40, go_sem, c0, c1, c2] <;> omega) rfl ⟨?_, ((hBx.setCell (p := ⟨w.heap.size, 0, none⟩) (Nat.le_refl _) _).setCell (p := ⟨w.heap.size, 1, none⟩) (Nat.le_refl _) _).setCell (p := ⟨w.heap.size, 2, none⟩) (Nat.le_refl _) _⟩
        rw [Ho.out, if_neg (by intro h; exact absurd h.1 (by assumption))]
    · have hge : (s.size : Int) ≤ n := by omega
      have hd : s.data.toList.drop n = [] := List.drop_eq_nil_of_le (by rw [← Lib.size_eq]; omega)
      have Hp : Hid (partedL (s.data.toList.drop n) = true) := Lib.hid (by rw [hd]; rfl)
      clear hd
      go_wp2_with fail
      all_goals
        refine bodyPost_ret (v := .tuple #[.agg #[.int .i64 (k : Int), .string (bs tx), .int .i64 0], .int .i64 (n : Int)]) (by simp [results, Tryd.results40, go_sem, c0, c1, c2] <;> omega) rfl ⟨?_, ((hBx.setCell (p := ⟨w.heap.size, 0, none⟩) (Nat.le_refl _) _).setCell (p := ⟨w.heap.size, 1, none⟩) (Nat.le_refl _) _).setCell (p := ⟨w.heap.size, 2, none⟩) (Nat.le_refl _) _⟩
        rw [Ho.out, if_neg (fun h => by have := h.2.2.2; rw [Hp.out] at this; exact absurd this (by simp))]
end Go.Proofs.YtndejiminaopeaaDoor
