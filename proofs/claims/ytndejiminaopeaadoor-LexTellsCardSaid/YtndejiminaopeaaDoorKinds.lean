/- The readers of lex.kinds by their contracts. -/
import Derived.Test.YtndejiminaopeaaDoorQuot
import Derived.Deep.RegionHeld3
namespace Go.Proofs.YtndejiminaopeaaDoor
open Go.RowKit

theorem TrimPrefix_any (s p : ByteArray) (w : World) :
    Calls Tryd.prog 71 #[.string s, .string p] w fun e w' => ∃ t : ByteArray, e = .returned (.string t) ∧ t.size ≤ s.size ∧ Hid (t.data.toList = Lib.trimPrefix s.data.toList p.data.toList) ∧ w = w' :=
  (Tryd.strings_TrimPrefix s p w).mono fun _ _ ⟨h1, h2⟩ => ⟨_, h1, by rw [Lib.size_eq, Lib.size_eq]; exact Lib.trimPrefix_le _ _, Lib.hid rfl, h2.symm⟩

/-! ### a number's reader -/
theorem int_calls (s : ByteArray) (w : World) (hs : s.size ≤ 9223372036854775800) :
    Calls Tryd.prog 70 #[.string s] w fun e w' => e = .returned (.int .i64 (intL s.data.toList : Nat)) ∧ Below w.heap.size w w' := by
  go_enter Tryd.func70, Tryd.ntmps70
  go_wp2_with fail
  refine (TrimPrefix_any _ _ _).mono ?_
  rintro e w1 ⟨t, rfl, hts, Ht, rfl⟩
  obtain ⟨n, hn⟩ : ∃ n : Nat, n + t.size = s.size := ⟨s.size - t.size, by omega⟩
  have hni : (s.size : Int) - (t.size : Int) = (n : Int) := by omega
  have hx := ext_size_le s n s.size
  have Hx := Lib.hid (ext_from s n)
  have hnle : (n : Int) ≤ s.size := by omega
  have hnn : n = s.data.toList.length - (Lib.trimPrefix s.data.toList [45]).length := by
    have h1 := congrArg List.length Ht.out
    have h2 : t.data.toList.length = t.size := (Lib.size_eq t).symm
    have h3 : s.data.toList.length = s.size := (Lib.size_eq s).symm
    have h4 : (⟨#[45]⟩ : ByteArray).data.toList = [45] := rfl
    rw [h4] at h1
    omega
  have Hnn := Lib.hid hnn
  clear hnn
  go_wp2_with fail
  refine (run_any _ _ _ (by omega) low_digits).mono ?_
  rintro e w2 ⟨m, rfl, hm, Hm, hb2⟩
  have Hm2 : Hid (m = runL digitsL (s.data.toList.drop n)) := Lib.hid (by rw [Hm.out, Hx.out]; rfl)
  clear Hm
  have hmle : n + m ≤ s.size := by
    have h5 : (s.extract n s.size).size = s.size - n := by rw [Lib.size_eq, Hx.out, List.length_drop, ← Lib.size_eq]
    omega
  by_cases hm0 : 0 < m
  · have hm0i : (0 : Int) < m := by omega
    have hnm : (n : Int) + (m : Int) ≤ s.size := by omega
    have hnat : ((n : Int) + (m : Int)).toNat = n + m := by omega
    have hy := ext_size_le s 0 (n + m)
    have Hy := Lib.hid (ext_to s (n + m))
    go_wp2_with fail
    refine (Number_calls _ _ (by omega)).mono ?_
    rintro e w3 ⟨rfl, hb3⟩
    have Hb : Hid (numB (s.extract 0 (n + m)).data.toList = numB (s.data.toList.take (n + m))) := Lib.hid (by rw [Hy.out])
    generalize numB (s.extract 0 (n + m)).data.toList = q at *
    have Hi : Hid (intL s.data.toList = if q then n + m else 0) := Lib.hid (by
      unfold intL; dsimp only; rw [← Hnn.out, ← Hm2.out, if_pos hm0, ← Hb.out])
    cases q
    all_goals
      go_wp2_with fail
      go_ret
      exact ⟨ret_int (by rw [Hi.out]; simp), hb2.trans (hb3.mono hb2.size)⟩
  · have hm0i : (m : Int) ≤ 0 := by omega
    go_wp2_with fail
    go_ret
    refine ⟨ret_int ?_, hb2⟩
    unfold intL; dsimp only; rw [← Hnn.out, ← Hm2.out, if_neg hm0]; rfl

/-! ### a sign's reader -/
theorem has_calls (s x : ByteArray) (b : Nat) (w : World) (hb : w.cell? ⟨b, 0, none⟩ = some (.string s)) :
    Calls Tryd.prog 74 #[.string x, .pointer (some ⟨b, 0, none⟩)] w fun e w' => ∃ q : Bool, e = .returned (.bool q) ∧ Hid (q = Lib.hasPrefix s.data.toList x.data.toList) ∧ w = w' := by
  go_enter Tryd.func74, Tryd.ntmps74
  go_wp2_with fail
  refine (HasPrefix_any _ _ _).mono ?_
  rintro e w1 ⟨q, rfl, Hq, rfl⟩
  go_wp2_with fail
  go_ret
  exact ⟨_, rfl, Hq, rfl⟩

/-! ### a bracket's reader -/
set_option maxHeartbeats 1000000 in
theorem bracket_calls (s : ByteArray) (c : UInt8) (k : Int) (bk bo : Nat) (w : World) (hs : s.size ≤ 9223372036854775800) (h1 : 1 ≤ s.size) (hof : c.toNat < 128)
    (hk : w.cell? ⟨bk, 0, none⟩ = some (.int .i64 k)) (ho : w.cell? ⟨bo, 0, none⟩ = some (.string ⟨#[c]⟩)) :
    Calls Tryd.prog 67 #[.string s, .pointer (some ⟨bk, 0, none⟩), .pointer (some ⟨bo, 0, none⟩)] w fun e w' =>
      e = .returned (.tuple #[.int .i64 k, .string (bs []), .int .i64 (brL c s.data.toList : Nat)]) ∧ Below w.heap.size w w' := by
  have hset : ∀ b ∈ (⟨#[c]⟩ : ByteArray).data.toList, b.toNat < 128 := by intro b hb; simp at hb; subst hb; exact hof
  have h1i : (1 : Int) ≤ s.size := by omega
  have hx : (s.extract 0 1).size ≤ 1 := by rw [extract_bs, bs_size, List.length_take]; omega
  have Hx := Lib.hid (ext_to s 1)
  have hkl := World.block_lt_of_cell? w _ hk
  have hol := World.block_lt_of_cell? w _ ho
  go_enter Tryd.func67, Tryd.ntmps67
  go_wp2_with fail
  have HB := Below.refl w.heap.size w
  go_region_held3 (fun w' => w'.cell? ⟨bk, 0, none⟩ = some (.int .i64 k) ∧ w'.cell? ⟨bo, 0, none⟩ = some (.string ⟨#[c]⟩) ∧ Below w.heap.size w w') (first | exact ⟨hk, ho, HB⟩ | exact ⟨hk, ho, HB.drew⟩ | (refine ⟨?_, ?_, ?_⟩ <;> assumption))
    (first | (go_at_call 32; refine (run_any _ _ _ (by omega) hset).mono ?_; rintro e w1 ⟨n, rfl, hn, Hn, hb1⟩; have bq : Below w.heap.size w w1 := HB.drew.trans (hb1.mono (Nat.le_refl _)); have kq := (bq.cell (p := ⟨bk, 0, none⟩) hkl).trans hk; have oq := (bq.cell (p := ⟨bo, 0, none⟩) hol).trans ho))
  go_wp2_with fail
  go_ret3
  refine ⟨?_, bq⟩
  have hn' : n = runL [c] (s.data.toList.take 1) := by rw [Hn.out, Hx.out]
  have hle : n ≤ 1 := by omega
  have hb : brL c s.data.toList = n := by
    unfold brL; rw [← hn']
    rcases Nat.le_one_iff_eq_zero_or_eq_one.1 hle with h | h <;> simp [h]
  rw [hb]
  rcases Nat.le_one_iff_eq_zero_or_eq_one.1 hle with h | h <;> subst h <;> rfl

/-! ### what stands in the list of signs -/
def signV : List Value := signs.map fun l => .string (bs l)
/-- The first of the signs that begins a text. -/
def signAt (l : List UInt8) : Option Nat := signs.findIdx? (fun x => Lib.hasPrefix l x)
def signI (l : List UInt8) : Int := match signAt l with | some k => (k : Int) | none => -1
theorem getD_at (l : List (List UInt8)) (k : Nat) (h : k < l.length) : l.getD k [] = l[k] := by simp [h]

theorem sign_cell {w : World} {g : Nat} (hc : ∀ j u, signV[j]? = some u → w.cell? ⟨g, j, none⟩ = some u) (k : Nat) (hk : k < 8) : w.cell? ⟨g, k, none⟩ = some (.string (bs (signs.getD k []))) := by
  refine hc k _ ?_
  unfold signV
  rw [List.getElem?_map]
  match k, hk with
  | 0, _ => rfl | 1, _ => rfl | 2, _ => rfl | 3, _ => rfl | 4, _ => rfl | 5, _ => rfl | 6, _ => rfl | 7, _ => rfl

set_option maxHeartbeats 1000000 in
theorem IndexFunc_calls (s : ByteArray) (g b : Nat) (w : World) (hb : w.cell? ⟨b, 0, none⟩ = some (.string s)) (hc : ∀ j u, signV[j]? = some u → w.cell? ⟨g, j, none⟩ = some u) :
    Calls Tryd.prog 73 #[.slice (some ⟨g, 0, none⟩) 8 8, .func (.func 74) #[] #[.pointer (some ⟨b, 0, none⟩)]] w fun e w' =>
      e = .returned (.int .i64 (signI s.data.toList)) ∧ w = w' := by
  go_enter Tryd.func73, Tryd.ntmps73
  go_wp2_with fail
  go_loop [8] (fun i => ∃ k : Nat, k ≤ 8 ∧ i = .int .i64 (k : Int) ∧ Hid (∀ j, j < k → Lib.hasPrefix s.data.toList (signs.getD j []) = false)) (fun i => 8 - (intOf i).toNat)
  case atStart => exact ⟨0, by omega, rfl, Lib.hid fun j hj => absurd hj (Nat.not_lt_zero _)⟩
  case round =>
    obtain ⟨k, hk, rfl, Hk⟩ := hrel
    by_cases hlt : k < 8
    · have hcell := sign_cell hc k hlt
      have hlti : (k : Int) < 8 := by omega
      clear hc
      go_wp2_with fail
      refine (has_calls s _ b _ hb).mono ?_
      rintro e w1 ⟨q, rfl, Hq0, rfl⟩
      have Hq : Hid (q = Lib.hasPrefix s.data.toList (signs.getD k [])) := Lib.hid (by rw [Hq0.out, bs_toList]; simp)
      clear Hq0
      have Hnext : Hid (Lib.hasPrefix s.data.toList (signs.getD k []) = false → ∀ j, j < k + 1 → Lib.hasPrefix s.data.toList (signs.getD j []) = false) := Lib.hid fun h j hj => by
        rcases Nat.lt_or_ge j k with h1 | h1
        · exact Hk.out j h1
        · obtain rfl : j = k := by omega
          exact h
      cases q
      · go_wp2_with fail
        go_round
        case rel => exact ⟨k + 1, by omega, by go_num, Lib.hid (Hnext.out Hq.out.symm)⟩
        case measure => simp [intOf]; omega
      · go_wp2_with fail
        go_ret
        refine ⟨ret_int ?_, rfl⟩
        have hs : signAt s.data.toList = some k := by
          unfold signAt
          rw [List.findIdx?_eq_some_iff_getElem]
          refine ⟨hlt, ?_, fun j hj => ?_⟩
          · have := Hq.out.symm
            rw [getD_at _ _ hlt] at this
            exact this
          · have := Hk.out j hj
            rw [getD_at _ _ (Nat.lt_trans hj (show k < signs.length from hlt))] at this
            rw [this]; simp
        unfold signI; rw [hs]
    · obtain rfl : k = 8 := by omega
      go_wp2_with fail
      go_ret
      refine ⟨ret_int ?_, rfl⟩
      have hs : signAt s.data.toList = none := by
        unfold signAt
        rw [List.findIdx?_eq_none_iff]
        intro x hx
        obtain ⟨j, hj, rfl⟩ := List.getElem_of_mem hx
        have := Hk.out j hj
        rw [getD_at _ _ hj] at this
        exact this
      unfold signI; rw [hs]

theorem signAt_lt {l : List UInt8} {k : Nat} (h : signAt l = some k) : k < 8 := by
  unfold signAt at h
  rw [List.findIdx?_eq_some_iff_getElem] at h
  exact h.1
theorem find_of_findIdx {α : Type} (p : α → Bool) (l : List α) : l.find? p = (l.findIdx? p).bind (fun k => l[k]?) := by
  induction l with
  | nil => rfl
  | cons a l ih =>
    rw [List.find?_cons, List.findIdx?_cons]
    cases h : p a
    · simp [ih]
      cases l.findIdx? p <;> simp
    · simp
theorem signL_none {l : List UInt8} (h : signAt l = none) : signL l = 0 := by
  unfold signL; rw [find_of_findIdx]; unfold signAt at h; rw [h]; rfl
theorem signL_some {l : List UInt8} {k : Nat} (h : signAt l = some k) : signL l = (signs.getD k []).length := by
  have hk := signAt_lt h
  unfold signL; rw [find_of_findIdx]; unfold signAt at h; rw [h]
  simp only [Option.bind_some]
  rw [List.getElem?_eq_getElem (show k < signs.length from hk), getD_at _ _ (show k < signs.length from hk)]
set_option maxHeartbeats 1000000 in
theorem sign_calls (s : ByteArray) (w : World) (hs : s.size ≤ 9223372036854775800) :
    Calls Tryd.prog 72 #[.string s] w fun e w' => e = .returned (.int .i64 (signL s.data.toList : Nat)) ∧ Below w.heap.size w w' := by
  go_enter Tryd.func72, Tryd.ntmps72
  go_wp2_with fail
  have hb : ((w.alloc (.cells #[.string s] 9)).alloc (.cells signV.toArray 9)).cell? ⟨w.heap.size, 0, none⟩ = some (.string s) := by
    rw [World.cell?_alloc_lt _ _ ⟨w.heap.size, 0, none⟩ (by simp)]; simp
  have hc : ∀ j u, signV[j]? = some u → ((w.alloc (.cells #[.string s] 9)).alloc (.cells signV.toArray 9)).cell? ⟨w.heap.size + 1, j, none⟩ = some u := by
    intro j u hu
    rw [World.cell?_alloc_at _ _ _ _ (by simp)]
    simpa using hu
  refine (IndexFunc_calls s _ _ _ hb hc).mono ?_
  rintro e w1 ⟨rfl, rfl⟩
  have HB : Below w.heap.size w ((w.alloc (.cells #[.string s] 9)).alloc (.cells signV.toArray 9)) := ((Below.refl _ w).alloc (Nat.le_refl _) _).alloc (by simp) _
  generalize (w.alloc (.cells #[.string s] 9)).alloc (.cells signV.toArray 9) = W at *
  rcases hs0 : signAt s.data.toList with _ | k
  · have hI : signI s.data.toList = -1 := by unfold signI; rw [hs0]
    have Hs0 := Lib.hid hs0
    rw [hI]
    clear hs0 hI hc
    go_wp2_with fail
    go_ret
    refine ⟨ret_int ?_, HB⟩
    rw [signL_none Hs0.out]; rfl
  · have hI : signI s.data.toList = (k : Int) := by unfold signI; rw [hs0]
    have hk : k < 8 := signAt_lt hs0
    have hcell := sign_cell hc k hk
    have Hs0 := Lib.hid hs0
    rw [hI]
    clear hs0 hI hc
    go_wp2_with fail
    go_ret
    refine ⟨ret_int ?_, HB⟩
    rw [signL_some Hs0.out]
    simp [bs_size]

/-! ### the readers that take a kind and a measure -/

theorem plain_int (s : ByteArray) (k : Int) (bl bk : Nat) (w : World) (hs : s.size ≤ 9223372036854775800)
    (hl : w.cell? ⟨bl, 0, none⟩ = some (.func (.func 70) #[] #[])) (hk : w.cell? ⟨bk, 0, none⟩ = some (.int .i64 k)) (n : Nat) (Hn : Hid (intL s.data.toList = n)) (hle : n ≤ s.size) :
    Calls Tryd.prog 65 #[.string s, .pointer (some ⟨bl, 0, none⟩), .pointer (some ⟨bk, 0, none⟩)] w fun e w' =>
      e = .returned (.tuple #[.int .i64 k, .string (s.extract 0 (intL s.data.toList)), .int .i64 (intL s.data.toList : Nat)]) ∧ Below w.heap.size w w' := by
  have hbk := World.block_lt_of_cell? w _ hk
  have hnle : (n : Int) ≤ s.size := by omega
  go_enter Tryd.func65, Tryd.ntmps65
  go_wp2_with fail
  refine (int_calls _ _ hs).mono ?_
  rintro e w1 ⟨rfl, hb1⟩
  have hk1 := (hb1.cell (p := ⟨bk, 0, none⟩) hbk).trans hk
  rw [Hn.out]
  go_wp2_with fail
  go_quiet (fail)
  go_wp2_with fail
  go_ret3
  rw [Hn.out]
  exact ⟨rfl, below_drewN hb1 _⟩

theorem plain_named (s : ByteArray) (k : Int) (bl bk : Nat) (w : World) (hs : s.size ≤ 9223372036854775800)
    (hl : w.cell? ⟨bl, 0, none⟩ = some (.func (.func 30) #[] #[])) (hk : w.cell? ⟨bk, 0, none⟩ = some (.int .i64 k)) (n : Nat) (Hn : Hid (namedL s.data.toList = n)) (hle : n ≤ s.size) :
    Calls Tryd.prog 65 #[.string s, .pointer (some ⟨bl, 0, none⟩), .pointer (some ⟨bk, 0, none⟩)] w fun e w' =>
      e = .returned (.tuple #[.int .i64 k, .string (s.extract 0 (namedL s.data.toList)), .int .i64 (namedL s.data.toList : Nat)]) ∧ Below w.heap.size w w' := by
  have hbk := World.block_lt_of_cell? w _ hk
  have hnle : (n : Int) ≤ s.size := by omega
  go_enter Tryd.func65, Tryd.ntmps65
  go_wp2_with fail
  refine (named_calls _ _ hs).mono ?_
  rintro e w1 ⟨rfl, hb1⟩
  have hk1 := (hb1.cell (p := ⟨bk, 0, none⟩) hbk).trans hk
  rw [Hn.out]
  go_wp2_with fail
  go_quiet (fail)
  go_wp2_with fail
  go_ret3
  rw [Hn.out]
  exact ⟨rfl, below_drewN hb1 _⟩

theorem plain_sign (s : ByteArray) (k : Int) (bl bk : Nat) (w : World) (hs : s.size ≤ 9223372036854775800)
    (hl : w.cell? ⟨bl, 0, none⟩ = some (.func (.func 72) #[] #[])) (hk : w.cell? ⟨bk, 0, none⟩ = some (.int .i64 k)) (n : Nat) (Hn : Hid (signL s.data.toList = n)) (hle : n ≤ s.size) :
    Calls Tryd.prog 65 #[.string s, .pointer (some ⟨bl, 0, none⟩), .pointer (some ⟨bk, 0, none⟩)] w fun e w' =>
      e = .returned (.tuple #[.int .i64 k, .string (s.extract 0 (signL s.data.toList)), .int .i64 (signL s.data.toList : Nat)]) ∧ Below w.heap.size w w' := by
  have hbk := World.block_lt_of_cell? w _ hk
  have hnle : (n : Int) ≤ s.size := by omega
  go_enter Tryd.func65, Tryd.ntmps65
  go_wp2_with fail
  refine (sign_calls _ _ hs).mono ?_
  rintro e w1 ⟨rfl, hb1⟩
  have hk1 := (hb1.cell (p := ⟨bk, 0, none⟩) hbk).trans hk
  rw [Hn.out]
  go_wp2_with fail
  go_quiet (fail)
  go_wp2_with fail
  go_ret3
  rw [Hn.out]
  exact ⟨rfl, below_drewN hb1 _⟩

/-! ### a text's reader -/
theorem quotGo_le : ∀ (k : Nat) (l : List UInt8) (n : Nat) (acc : List UInt8), (quotGo k l n acc).2 ≤ n + l.length := by
  intro k
  induction k with
  | zero => intro l n acc; simp [quotGo]
  | succ k ih =>
    intro l n acc
    cases l with
    | nil => simp [quotGo]
    | cons c r =>
      rw [quotGo_step]
      split
      · simp
      · split
        · split
          · simp
          · have := ih (r.drop (escL r).2) (n + 1 + (escL r).2) (acc ++ [UInt8.ofNat (escL r).1])
            rw [List.length_drop] at this
            have h2 := escL_le r
            simp only [List.length_cons]; omega
        · split
          · simp
          · have := ih r (n + 1) (acc ++ [c])
            simp only [List.length_cons]; omega
theorem quotL_le (l : List UInt8) (h : l ≠ []) : (quotL l).2 ≤ l.length := by
  have := quotGo_le l.length (l.drop 1) 1 []
  unfold quotL
  rw [List.length_drop] at this
  have h0 : 0 < l.length := List.length_pos_iff.2 h
  omega
theorem text_calls (s : ByteArray) (w : World) (hs : s.size ≤ 140737488355000) (h1 : 0 < s.size) :
    Calls Tryd.prog 68 #[.string s] w fun e w' => e = .returned (.tuple #[.int .i64 ((textL s.data.toList).1 : Nat), .string (bs (textL s.data.toList).2.1), .int .i64 ((textL s.data.toList).2.2 : Nat)]) ∧ Below w.heap.size w w' := by
  have hh := head_at s h1
  have h1i : (0 : Int) < s.size := by omega
  have Ht : Hid (textL s.data.toList = if s[0]'h1 = 34 then (3, quotL s.data.toList) else (0, [], 0)) := Lib.hid (by unfold textL; rw [hh]; simp)
  clear hh
  have k34 : (((s[0]'h1).toNat : Int) == 34) = decide (s[0]'h1 = 34) := beqU (by decide)
  have kne : (((s[0]'h1).toNat : Int) != 34) = !decide (s[0]'h1 = 34) := by rw [← k34]; rfl
  clear k34
  by_cases c1 : s[0]'h1 = 34
  · rw [decide_eq_true c1] at kne
    have C1 := Lib.hid c1; clear c1
    go_enter Tryd.func68, Tryd.ntmps68
    go_wp2_with fail
    refine (quoted_calls _ _ hs).mono ?_
    rintro e w1 ⟨rfl, hb1⟩
    go_wp2_with fail
    go_ret3
    refine ⟨?_, hb1⟩
    rw [Ht.out, if_pos C1.out]; rfl
  · rw [decide_eq_false c1] at kne
    have C1 := Lib.hid c1; clear c1
    go_enter Tryd.func68, Tryd.ntmps68
    go_wp2_with fail
    go_ret3
    refine ⟨?_, Below.refl _ _⟩
    rw [Ht.out, if_neg C1.out]; rfl
end Go.Proofs.YtndejiminaopeaaDoor
