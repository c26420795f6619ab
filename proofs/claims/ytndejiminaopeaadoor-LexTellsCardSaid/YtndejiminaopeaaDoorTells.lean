/- LexTells: the walk. -/
import Derived.Test.YtndejiminaopeaaDoorRef7
import Derived.Test.YtndejiminaopeaaDoorWorks
import Derived.Test.YtndejiminaopeaaDoorFew
import Derived.IntWalk
namespace Go.Proofs.YtndejiminaopeaaDoor
open Go.RowKit

theorem sameL_self (l : List Tk) : sameL true l l = true := by
  induction l with
  | nil => rfl
  | cons x r ih =>
    unfold sameL at *
    simp only [Bool.and_eq_true, decide_eq_true_eq, List.zip_cons_cons, List.all_cons] at *
    exact ⟨trivial, by simp [sameT], ih.2⟩
/-- A text's bytes in a row of their own. -/
theorem bytes_of (s : ByteArray) (W : World) : ∃ (W' : World) (cap : Nat) (C : Array Value) (m : Nat), (convert 9 24 (.string s)).run Tryd.prog W = .ok (.slice (some ⟨W.heap.size, 0, none⟩) s.size cap) W' ∧
    W'.heap[W.heap.size]? = some (.cells C 5 (m, m + 1)) ∧ s.size ≤ m ∧ (∀ j, ∀ h : j < s.size, C[j]? = some (.int .u8 ((s[j]'h).toNat : Int))) ∧ Below W.heap.size W W' ∧ W.heap.size < W'.heap.size := by
  refine ⟨_, _, bytesRow s (grownCap W s.size 0 5), (bytesRow s (grownCap W s.size 0 5)).size, run_bytes_of_string W _ _ 5 s Tryd.underlying9 Tryd.underlying24 Tryd.underlying5, heap_new _ _ _ rfl, ?_, fun j h => ?_, ((Below.refl _ W).drew).alloc (Nat.le_refl _) _, ?_⟩
  · unfold bytesRow
    rw [Array.size_append, Array.size_map]
    show s.data.size ≤ _
    omega
  · exact bytesRow_at s _ j h
  · show W.heap.size < (W.drew.alloc _).heap.size
    rw [World.size_alloc]
    exact Nat.lt_succ_self _
/-- A row of bytes, back to a text. -/
theorem bytes_back (W : World) (g cap n : Nat) (l : List UInt8) (hn : l.length = n) (hc : ∀ j, ∀ h : j < l.length, W.cell? ⟨g, j, none⟩ = some (.int .u8 ((l[j]'h).toNat : Int))) :
    (convert 24 9 (.slice (some ⟨g, 0, none⟩) n cap)).run Tryd.prog W = .ok (.string (bs l)) W := by
  subst hn
  refine run_convert_bytes_back W _ _ 5 ⟨g, 0, none⟩ cap l Tryd.underlying24 Tryd.underlying5 Tryd.underlying9 fun j hj => ?_
  have e : (Addr.add ⟨g, 0, none⟩ j) = (⟨g, j, none⟩ : Addr) := by by_cases h0 : j = 0 <;> simp [Addr.add, h0]
  rw [e]
  exact hc j hj
/-- told, of an error and its own fault. -/
theorem told_same (v : Value) (o : Option Nat) (w : World) (hg : Laid0 w) (h : ErrIs w v o) :
    Calls Tryd.prog 13 #[v, faultV o] w fun e w' => e = .returned (.bool true) ∧ Below w.heap.size w w' := by
  cases o with
  | some p =>
    exact (told_at v (some p) (p : Int) w hg h).mono fun _ _ ⟨h1, h2⟩ => ⟨by rw [h1]; simp, h2⟩
  | none =>
    cases h
    show Calls Tryd.prog 13 #[.nilIface, .agg #[.int .i64 0, .int .i64 0]] w _
    go_enter Tryd.func13, Tryd.ntmps13
    go_wp2_with fail
    have HB : Below w.heap.size w (w.alloc (.cells #[.int .i64 0, .int .i64 0] 33)) := (Below.refl _ w).alloc (Nat.le_refl _) _
    have HC := heap_new w (.cells #[.int .i64 0, .int .i64 0] 33) w.heap.size rfl
    obtain ⟨W0, hW0⟩ : ∃ W0, w.alloc (.cells #[.int .i64 0, .int .i64 0] 33) = W0 := ⟨_, rfl⟩
    rw [hW0] at HB HC ⊢
    have c0 : W0.cell? ⟨w.heap.size, 0, none⟩ = some (.int .i64 0) := (cell_of HC 0).trans rfl
    have c1 : W0.cell? ⟨w.heap.size, 1, none⟩ = some (.int .i64 0) := (cell_of HC 1).trans rfl
    have HL := lt_of_heap HC
    go_region_held3 (fun w' => w'.cell? ⟨w.heap.size, 0, none⟩ = some (.int .i64 0) ∧ w'.cell? ⟨w.heap.size, 1, none⟩ = some (.int .i64 0) ∧ Below w.heap.size w w') (first | exact ⟨c0, c1, HB⟩ | exact ⟨c0, c1, HB.drew⟩ | (refine ⟨?_, ?_, ?_⟩ <;> assumption))
      (first | (go_at_call 17; refine (Told_nil _).mono ?_; rintro e w1 ⟨rfl, hb⟩; have bq : Below w.heap.size w w1 := HB.drew.trans (hb.mono HB.size); have kq := (hb.cell (p := ⟨w.heap.size, 0, none⟩) HL).trans c0; have oq := (hb.cell (p := ⟨w.heap.size, 1, none⟩) HL).trans c1))
    go_wp2_with fail
    go_ret
    exact ⟨rfl, bq⟩
theorem two_at (a b : ByteArray) (ha : a.size ≤ 300) (hb : b.size ≤ 300) (i : Nat) (hi : i < 2) :
    ∃ u : ByteArray, u.size ≤ 300 ∧ ∀ w, (Instr.index 25 (.agg #[.string a, .string b]) (.int .i64 (i : Int))).run Tryd.prog w = .ok (.string u) w := by
  match i, hi with
  | 0, _ => exact ⟨a, by omega, fun _ => by kernel_rfl⟩
  | 1, _ => exact ⟨b, by omega, fun _ => by kernel_rfl⟩

set_option maxRecDepth 100000 in
set_option maxHeartbeats 4000000 in
theorem LexTells_calls (s0 : ByteArray) (x0 x1 : UInt8) (w : World) (hg : Laid0 w) (hs0 : s0.size ≤ 9223372036854775807) :
    Calls Tryd.prog 3 #[.string s0, .agg #[.int .u8 (x0.toNat : Int), .int .u8 (x1.toNat : Int)]] w fun e w' => e = .returned (.bool true) ∧ Below w.heap.size w w' := by
  go_enter Tryd.func3, Tryd.ntmps3
  go_wp2_with fail
  have HB0 := Lib.hid ((Below.refl w.heap.size w).alloc (Nat.le_refl _) (.cells #[.int .u8 (x0.toNat : Int), .int .u8 (x1.toNat : Int)] 22))
  have hx := heap_new w (.cells #[.int .u8 (x0.toNat : Int), .int .u8 (x1.toNat : Int)] 22) w.heap.size rfl
  have hg0 := Lib.hid (hg.below HB0.out)
  obtain ⟨W0, hW0⟩ : ∃ W0, w.alloc (.cells #[.int .u8 (x0.toNat : Int), .int .u8 (x1.toNat : Int)] 22) = W0 := ⟨_, rfl⟩
  rw [hW0] at HB0 hx hg0 ⊢
  clear hW0
  refine (few_calls _ 300 _ hs0 (by decide)).mono ?_
  rintro e w1 ⟨s, rfl, _, hs, hb1⟩
  have hg1 := Lib.hid (hg0.out.below hb1)
  have HB1 := Lib.hid (HB0.out.trans (hb1.mono HB0.out.size))
  have hx1 := below_lt hb1 hx
  clear hb1 hx hg0 HB0
  obtain ⟨w2, cap, C, m, hcv, hrow, hm, hC, hb2, hsz2⟩ := bytes_of s w1
  have hg2 := Lib.hid (hg1.out.below hb2)
  have HB2 := Lib.hid (HB1.out.trans (hb2.mono HB1.out.size))
  have hx2 := below_lt hb2 hx1
  have hxlt := lt_of_heap hx1
  have HX1 := Lib.hid hx1
  clear hb2 hx1
  by_cases h0 : s.size = 0
  · have hlt0 : decide (0 < s.size) = false := decide_eq_false (by omega)
    have hcb := bytes_back w2 w1.heap.size cap s.size s.data.toList (Lib.size_eq s).symm (fun j h => by
      rw [cell_of hrow j]; exact hC j (by rw [Lib.size_eq]; exact h))
    rw [bs_data] at hcb
    clear h0 hrow hx2
    go_wp2_with fail
    have HBx := Lib.hid (HB2.out)
    have hgx := Lib.hid (hg.below HBx.out)
    have H2 := Lib.hid (two_at s s hs hs)
    clear hcb hcv
    go_loopw [33] (fun v33 wr => ∃ i : Nat, v33 = .int .i64 (i : Int) ∧ i ≤ 2 ∧ Hid (Laid0 wr) ∧ Hid (Below w.heap.size w wr)) (fun v33 _ => 2 - (intOf v33).toNat)
    case atStart => exact ⟨0, rfl, by omega, hgx, HBx⟩
    case round =>
      obtain ⟨i, rfl, hi, hgr, HBr⟩ := hrel
      by_cases hlt : i < 2
      · have hlti : (i : Int) < 2 := by omega
        obtain ⟨u, hu300, hix⟩ := H2.out i hlt
        go_wp2_with fail
        refine (Tokens_any u _ (by omega)).mono ?_
        rintro e w3 ⟨va, ea, rfl, HRa, HEa, hb3⟩
        have hg3 := Lib.hid (hgr.out.below hb3)
        have HB3 := Lib.hid (HBr.out.trans (hb3.mono HBr.out.size))
        clear hb3
        go_wp2_with fail
        refine (RefTokens_calls u _ (by omega)).mono ?_
        rintro e w4 ⟨vb, rfl, hRb, hb4⟩
        have hg4 := Lib.hid (hg3.out.below hb4)
        have HB4 := Lib.hid (HB3.out.trans (hb4.mono HB3.out.size))
        have HRa4 := Lib.hid (HRa.out.below hb4)
        have HEa4 := Lib.hid (HEa.out.below hb4)
        have HRb := Lib.hid hRb
        clear hb4 HB3 hg3 HRa HEa hRb
        rcases ht : toksL u.data.toList with ⟨l, o⟩
        rw [ht] at HRa4 HEa4 HRb
        have HRa4 : Hid (RowAt w4 va l) := HRa4
        have HEa4 : Hid (ErrIs w4 ea o) := HEa4
        have HRb : Hid (RowAt w4 vb l) := HRb
        have hle : l.length ≤ 1000000 := by
          have := toks_le u.data.toList
          rw [ht, ← Lib.size_eq] at this
          have : l.length ≤ u.size := this
          omega
        clear ht
        have hfv : ∃ a b : Int, faultV o = .agg #[.int .i64 a, .int .i64 b] := by
          cases o with
          | none => exact ⟨0, 0, rfl⟩
          | some p => exact ⟨4, p, rfl⟩
        obtain ⟨fa, fb, hf⟩ := hfv
        have HT : Hid (∀ W, Laid0 W → ErrIs W ea o → Calls Tryd.prog 13 #[ea, .agg #[.int .i64 fa, .int .i64 fb]] W fun e w' => e = .returned (.bool true) ∧ Below W.heap.size W w') := Lib.hid (fun W h1 h2 => by rw [← hf]; exact told_same ea o W h1 h2)
        have hf' : faultV ((l, o) : List Tk × Option Nat).2 = .agg #[.int .i64 fa, .int .i64 fb] := hf
        rw [hf']
        clear hf hf'
        go_wp2_with fail
        have hbn : Below w4.heap.size w4 (w4.alloc (.cells #[.int .i64 fa, .int .i64 fb] 33)) := (Below.refl _ _).alloc (Nat.le_refl _) _
        have HX := Lib.hid (HT.out _ (hg4.out.below hbn) (HEa4.out.below hbn))
        refine HX.out.mono ?_
        rintro e w5 ⟨rfl, hb5⟩
        have hbm := hbn.trans (hb5.mono hbn.size)
        have hg5 := Lib.hid (hg4.out.below hbm)
        have HB5 := Lib.hid (HB4.out.trans (hbm.mono HB4.out.size))
        have HRa5 := Lib.hid (HRa4.out.below hbm)
        have HRb5 := Lib.hid (HRb.out.below hbm)
        clear hb5 hbm hbn HX
        go_wp2_with fail
        have hsm := Same_calls va vb l l true w5 HRa5.out HRb5.out hle
        rw [sameL_self] at hsm
        refine hsm.mono ?_
        rintro e w6 ⟨rfl, hb6⟩
        have hg6 := Lib.hid (hg5.out.below hb6)
        have HB6 := Lib.hid (HB5.out.trans (hb6.mono HB5.out.size))
        clear hb6 hsm
        go_wp2_with fail
        exact ⟨⟨i + 1, by go_num, by omega, hg6, HB6⟩, by simp [intOf]; omega⟩
      · have hge : (2 : Int) ≤ (i : Int) := by omega
        go_wp2_with fail
        refine (works_calls _ hgr.out).mono ?_
        rintro e w3 ⟨rfl, hb3⟩
        go_wp2_with fail
        go_ret
        exact ⟨rfl, HBr.out.trans (hb3.mono HBr.out.size)⟩
  · have hlt0 : decide (0 < s.size) = true := decide_eq_true (by omega)
    have hpos : (0 : Int) < (s.size : Int) := by omega
    obtain ⟨k, hk⟩ : ∃ k : Nat, x0.toNat % s.size = k := ⟨_, rfl⟩
    have hks : k < s.size := by rw [← hk]; exact Nat.mod_lt _ (by omega)
    have hki : (k : Int) < s.size := by omega
    have hmod : ((x0.toNat : Int)).tmod (s.size : Int) = (k : Int) := by rw [Int.tmod_eq_emod_of_nonneg (by omega), ← hk]; rfl
    have hmod2 : ((x0.toNat : Int)) % (s.size : Int) = (k : Int) := by rw [← hk]; rfl
    have hnz : ¬ s = ByteArray.empty := by rintro rfl; exact h0 rfl
    have hw0 : IntKind.i64.wrap (x0.toNat : Int) = (x0.toNat : Int) := IntWalk.i64_in _ (by have := UInt8.toNat_lt x0; omega)
    have e0 : w2.cell? ⟨w.heap.size, 0, none⟩ = some (.int .u8 (x0.toNat : Int)) := (cell_of hx2 0).trans rfl
    have e1 : w2.cell? ⟨w.heap.size, 1, none⟩ = some (.int .u8 (x1.toNat : Int)) := (cell_of hx2 1).trans rfl
    have ek : w2.cell? ⟨w1.heap.size, k, none⟩ = some (.int .u8 ((s[k]'hks).toNat : Int)) := (cell_of hrow k).trans (hC k hks)
    have fk : w2.frozen? ⟨w1.heap.size, k, none⟩ = false := by
      simp [World.frozen?, hrow]; omega
    have HM := Lib.hid hm
    have hcb : (convert 24 9 (.slice (some ⟨w1.heap.size, 0, none⟩) s.size cap)).run Tryd.prog (w2.setCell ⟨w1.heap.size, k, none⟩ (.int .u8 (x1.toNat : Int))).drew = .ok (.string (bs (s.data.toList.set k x1))) (w2.setCell ⟨w1.heap.size, k, none⟩ (.int .u8 (x1.toNat : Int))).drew :=
      bytes_back _ w1.heap.size cap s.size (s.data.toList.set k x1) (by rw [List.length_set, Lib.size_eq]) (fun j h => by
        show (w2.setCell ⟨w1.heap.size, k, none⟩ (.int .u8 (x1.toNat : Int))).cell? ⟨w1.heap.size, j, none⟩ = _
        rw [cell_of (heap_set hrow k _) j]
        have h' : j < s.size := by rw [List.length_set, ← Lib.size_eq] at h; exact h
        by_cases hjk : j = k
        · subst hjk
          have := hC j h'
          have hlt : j < C.size := (Array.getElem?_eq_some_iff.1 this).1
          simp [hlt]
        · rw [Array.getElem?_setIfInBounds_ne (by omega), hC j h', List.getElem_set_ne (by omega)]
          rfl)
    clear hk h0 hrow hx2
    go_wp2_with fail
    go_region
    go_wp2_with fail
    have hu : (bs (s.data.toList.set k x1)).size ≤ 300 := by rw [bs_size, List.length_set, ← Lib.size_eq]; exact hs
    have HBx := Lib.hid ((HB2.out.setCell (p := ⟨w1.heap.size, k, none⟩) (by have := HB1.out.size; exact this) (.int .u8 (x1.toNat : Int))).drew)
    have hgx := Lib.hid (hg.below HBx.out)
    have H2 := Lib.hid (two_at s (bs (s.data.toList.set k x1)) hs hu)
    clear hcb hcv
    go_loopw [33] (fun v33 wr => ∃ i : Nat, v33 = .int .i64 (i : Int) ∧ i ≤ 2 ∧ Hid (Laid0 wr) ∧ Hid (Below w.heap.size w wr)) (fun v33 _ => 2 - (intOf v33).toNat)
    case atStart => exact ⟨0, rfl, by omega, hgx, HBx⟩
    case round =>
      obtain ⟨i, rfl, hi, hgr, HBr⟩ := hrel
      by_cases hlt : i < 2
      · have hlti : (i : Int) < 2 := by omega
        obtain ⟨u, hu300, hix⟩ := H2.out i hlt
        go_wp2_with fail
        refine (Tokens_any u _ (by omega)).mono ?_
        rintro e w3 ⟨va, ea, rfl, HRa, HEa, hb3⟩
        have hg3 := Lib.hid (hgr.out.below hb3)
        have HB3 := Lib.hid (HBr.out.trans (hb3.mono HBr.out.size))
        clear hb3
        go_wp2_with fail
        refine (RefTokens_calls u _ (by omega)).mono ?_
        rintro e w4 ⟨vb, rfl, hRb, hb4⟩
        have hg4 := Lib.hid (hg3.out.below hb4)
        have HB4 := Lib.hid (HB3.out.trans (hb4.mono HB3.out.size))
        have HRa4 := Lib.hid (HRa.out.below hb4)
        have HEa4 := Lib.hid (HEa.out.below hb4)
        have HRb := Lib.hid hRb
        clear hb4 HB3 hg3 HRa HEa hRb
        rcases ht : toksL u.data.toList with ⟨l, o⟩
        rw [ht] at HRa4 HEa4 HRb
        have HRa4 : Hid (RowAt w4 va l) := HRa4
        have HEa4 : Hid (ErrIs w4 ea o) := HEa4
        have HRb : Hid (RowAt w4 vb l) := HRb
        have hle : l.length ≤ 1000000 := by
          have := toks_le u.data.toList
          rw [ht, ← Lib.size_eq] at this
          have : l.length ≤ u.size := this
          omega
        clear ht
        have hfv : ∃ a b : Int, faultV o = .agg #[.int .i64 a, .int .i64 b] := by
          cases o with
          | none => exact ⟨0, 0, rfl⟩
          | some p => exact ⟨4, p, rfl⟩
        obtain ⟨fa, fb, hf⟩ := hfv
        have HT : Hid (∀ W, Laid0 W → ErrIs W ea o → Calls Tryd.prog 13 #[ea, .agg #[.int .i64 fa, .int .i64 fb]] W fun e w' => e = .returned (.bool true) ∧ Below W.heap.size W w') := Lib.hid (fun W h1 h2 => by rw [← hf]; exact told_same ea o W h1 h2)
        have hf' : faultV ((l, o) : List Tk × Option Nat).2 = .agg #[.int .i64 fa, .int .i64 fb] := hf
        rw [hf']
        clear hf hf'
        go_wp2_with fail
        have hbn : Below w4.heap.size w4 (w4.alloc (.cells #[.int .i64 fa, .int .i64 fb] 33)) := (Below.refl _ _).alloc (Nat.le_refl _) _
        have HX := Lib.hid (HT.out _ (hg4.out.below hbn) (HEa4.out.below hbn))
        refine HX.out.mono ?_
        rintro e w5 ⟨rfl, hb5⟩
        have hbm := hbn.trans (hb5.mono hbn.size)
        have hg5 := Lib.hid (hg4.out.below hbm)
        have HB5 := Lib.hid (HB4.out.trans (hbm.mono HB4.out.size))
        have HRa5 := Lib.hid (HRa4.out.below hbm)
        have HRb5 := Lib.hid (HRb.out.below hbm)
        clear hb5 hbm hbn HX
        go_wp2_with fail
        have hsm := Same_calls va vb l l true w5 HRa5.out HRb5.out hle
        rw [sameL_self] at hsm
        refine hsm.mono ?_
        rintro e w6 ⟨rfl, hb6⟩
        have hg6 := Lib.hid (hg5.out.below hb6)
        have HB6 := Lib.hid (HB5.out.trans (hb6.mono HB5.out.size))
        clear hb6 hsm
        go_wp2_with fail
        exact ⟨⟨i + 1, by go_num, by omega, hg6, HB6⟩, by simp [intOf]; omega⟩
      · have hge : (2 : Int) ≤ (i : Int) := by omega
        go_wp2_with fail
        refine (works_calls _ hgr.out).mono ?_
        rintro e w3 ⟨rfl, hb3⟩
        go_wp2_with fail
        go_ret
        exact ⟨rfl, HBr.out.trans (hb3.mono HBr.out.size)⟩
end Go.Proofs.YtndejiminaopeaaDoor
