/- lex.tokens: the iterator's contract. -/
import Derived.Test.YtndejiminaopeaaDoorOneB
import Derived.Test.YtndejiminaopeaaDoorRange
import Derived.Shelf.Abstract
import Derived.Shelf.RegionOpen
import Derived.OwnWalkIn
import Derived.TacticsInMore
import Derived.LoopNIn
import Derived.LoopIn
namespace Go.Proofs.YtndejiminaopeaaDoor
open Go.RowKit Go.Shelf
attribute [local go_sem] Oper.semAt_some

/-! ### strings.Cut at a line end -/
theorem Index_any (s : ByteArray) (c : UInt8) (w : World) :
    Calls Tryd.prog 63 #[.string s, .string ⟨#[c]⟩] w fun e w' => ∃ n : Int, e = .returned (.int .i64 n) ∧ n < (s.size : Int) + 1 ∧ Hid (n = Lib.indexByte s.data.toList c) ∧ w = w' :=
  (Tryd.stringslite_Index_one s c w).mono fun _ _ ⟨h1, h2⟩ => ⟨_, h1, by rw [Lib.size_eq]; exact (indexByte_lt _ _).1, Lib.hid rfl, h2.symm⟩
theorem lineL_le (l : List UInt8) : lineL l ≤ l.length := by
  unfold lineL
  have := (indexByte_lt l 10).1
  split <;> omega
theorem cut1_calls (s : ByteArray) (w : World) (hs : s.size ≤ 9223372036854775800) :
    Calls Tryd.prog 54 #[.string s, .string ⟨#[10]⟩] w fun e w' => ∃ (r : ByteArray) (q : Bool), e = .returned (.tuple #[.string (s.extract 0 (lineL s.data.toList)), .string r, .bool q]) ∧ Below w.heap.size w w' := by
  go_enter Tryd.func54, Tryd.ntmps54
  go_wp2_with fail
  refine (Index_any _ _ _).mono ?_
  rintro e w1 ⟨n, rfl, hn, Hn, rfl⟩
  by_cases h0 : 0 ≤ n
  · obtain ⟨k, rfl⟩ := Int.eq_ofNat_of_zero_le h0
    have hk : k < s.size := by
      have := (indexByte_lt s.data.toList 10).2 (by rintro h; have h2 := Hn.out; rw [h] at h2; simp [Lib.indexByte] at h2)
      rw [← Hn.out, ← Lib.size_eq] at this; omega
    have hki : (k : Int) ≤ s.size := by omega
    have hki2 : (k : Int) + 1 ≤ s.size := by omega
    have Hl : Hid (lineL s.data.toList = k) := Lib.hid (by unfold lineL; rw [← Hn.out, if_pos (by omega)]; simp)
    clear h0
    go_wp2_with fail
    go_quiet (fail)
    go_wp2_with fail
    go_ret3
    rw [Hl.out]
    exact ⟨_, _, rfl, below_drewN (Below.refl _ _) _⟩
  · have h0i : n < 0 := by omega
    have Hl : Hid (lineL s.data.toList = s.size) := Lib.hid (by unfold lineL; rw [← Hn.out, if_neg h0, ← Lib.size_eq])
    have Hx : Hid (s.extract 0 s.size = s) := Lib.hid (by rw [extract_bs, List.drop_zero, List.take_of_length_le (by rw [← Lib.size_eq]; omega), bs_data])
    go_wp2_with fail
    go_ret3
    rw [Hl.out, Hx.out]
    exact ⟨_, _, rfl, Below.refl _ _⟩
theorem cut_calls (s : ByteArray) (w : World) (hs : s.size ≤ 9223372036854775800) :
    Calls Tryd.prog 39 #[.string s, .string ⟨#[10]⟩] w fun e w' => ∃ (r : ByteArray) (q : Bool), e = .returned (.tuple #[.string (s.extract 0 (lineL s.data.toList)), .string r, .bool q]) ∧ Below w.heap.size w w' := by
  go_enter Tryd.func39, Tryd.ntmps39
  go_wp2_with fail
  refine (cut1_calls s _ hs).mono ?_
  rintro e w1 ⟨r, q, rfl, hb⟩
  go_wp2_with fail
  go_ret3
  exact ⟨_, _, rfl, hb⟩

/-! ### lex.tokens: the closure -/
theorem tokens_calls (s : ByteArray) (w : World) :
    Calls Tryd.prog 26 #[.string s] w fun e w' => e = .returned (.func (.func 38) #[] #[.pointer (some ⟨w.heap.size, 0, none⟩)]) ∧ w' = w.alloc (.cells #[.string s] 9) := by
  go_enter Tryd.func26, Tryd.ntmps26
  go_wp2_with fail
  go_ret
  exact ⟨rfl, rfl⟩

/-! ### the iterator -/
theorem lineL_pos {l : List UInt8} (h : l.head? = some 59) : 1 ≤ lineL l := by
  cases l with
  | nil => simp at h
  | cons a r =>
    simp at h
    subst h
    have hge := Lib.indexByte_ge r 10
    have hne : Lib.indexByte (59 :: r) 10 ≠ 0 := by
      have e : Lib.indexByte (59 :: r) 10 = if Lib.indexByte r 10 == -1 then -1 else Lib.indexByte r 10 + 1 := rfl
      rw [e]
      by_cases h : Lib.indexByte r 10 = -1
      · simp [h]
      · have h2 : (Lib.indexByte r 10 == -1) = false := by simpa using h
        rw [h2]; simp; omega
    unfold lineL
    split
    · omega
    · simp
theorem oneL_le (l : List UInt8) (h : l ≠ []) : (oneL l).2.2 ≤ l.length := by
  unfold oneL
  split
  · simp
  · exact readL_le l h
theorem low_blanks : ∀ b ∈ (⟨#[32, 9, 10, 13]⟩ : ByteArray).data.toList, b.toNat < 128 := by decide
def itemV (x : Item) : Array Value := #[.agg #[.int .i64 (x.kind : Int), .string (bs x.text), .int .i64 (x.pos : Int)], .int .i64 (x.n : Int)]
def SameBlock (b : Nat) (A B : World) : Prop := B.heap[b]? = A.heap[b]?

set_option maxRecDepth 100000 in
set_option maxHeartbeats 4000000 in
theorem iter_ok (s : ByteArray) (sB : Nat) (w0 : World) (hs : s.size ≤ 140737488355000) (hbox : w0.heap[sB]? = some (.cells #[.string s] 9 (0, 0))) :
    IterOk Tryd.prog 38 #[.pointer (some ⟨sB, 0, none⟩)] itemV (fun x => x.n ≠ 0) (fun pre => pre <+: items s.data.toList)
      (fun xs => xs = items s.data.toList) (fun pre => pre <+: items s.data.toList) (SameBlock sB) w0 := by
  intro l J Jx W hb0 hJ hJx hgood hY h0
  have hW := below_lt hb0 hbox
  refine callsIn_of_wp Tryd.func38 rfl trivial ?_ rfl
  simp only [Tryd.ntmps38, List.size_toArray, List.length_cons, List.length_nil, Nat.reduceAdd, Nat.reduceSub, Array.replicate_succ, Array.replicate_zero, List.push_toArray, List.append_toArray, List.nil_append, List.cons_append]
  gi_wp2_with fail
  gi_loopw [3] (fun v3 wr => ∃ (k p : Nat) (pre : List Item), v3 = .int .i64 (p : Int) ∧ p ≤ s.size ∧ s.size ≤ p + k ∧ Hid (items s.data.toList = pre ++ itemsGo k p (s.data.toList.drop p)) ∧ J pre wr ∧ wr.heap[sB]? = some (.cells #[.string s] 9 (0, 0)))
    (fun v3 _ => s.size - (intOf v3).toNat)
  case atStart => exact ⟨s.size, 0, [], rfl, by omega, by omega, Lib.hid (by rw [Lib.size_eq]; rfl), h0, hW⟩
  case round =>
    obtain ⟨k, p, pre, rfl, hp, hk, Hi, hJs, hbx⟩ := hrel
    have hc := (cell_of hbx 0).trans rfl
    by_cases hlt : p < s.size
    · have hlti : (p : Int) < s.size := by omega
      obtain ⟨k, rfl⟩ : ∃ m, k = m + 1 := ⟨k - 1, by omega⟩
      obtain ⟨x, hx0⟩ : ∃ x, s.extract p s.size = x := ⟨_, rfl⟩
      have Hx : Hid (x.data.toList = s.data.toList.drop p) := Lib.hid (by rw [← hx0]; exact ext_from s p)
      have hxs1 : x.size + p ≤ s.size := by rw [Lib.size_eq x, Hx.out, List.length_drop, ← Lib.size_eq]; omega
      have hxs2 : s.size ≤ x.size + p := by rw [Lib.size_eq x, Hx.out, List.length_drop, ← Lib.size_eq]; omega
      gi_wp2_with fail
      clear hx0
      have hx0 : 0 < x.size := by omega
      have Hit : Hid (itemsGo (k + 1) p (s.data.toList.drop p) = itemsGo (k + 1) p x.data.toList) := Lib.hid (by rw [Hx.out])
      have Hn0 : Hid (x.data.toList ≠ []) := Lib.hid (fun h => by rw [Lib.size_eq x, h] at hx0; simp at hx0)
      have Hdr : Hid (∀ n, s.data.toList.drop (p + n) = x.data.toList.drop n) := Lib.hid (fun n => by rw [Hx.out, List.drop_drop])
      refine inCall (run_any x _ _ (by omega) low_blanks) ?_
      rintro e w1 ⟨n, rfl, hn, Hn, hb1⟩
      have Hn2 : Hid (n = runL blanksL x.data.toList) := Lib.hid Hn.out
      clear Hn
      have hJ1 := hJ _ _ _ hJs hb1
      have hbx1 := below_lt hb1 hbx
      have hc1 := (cell_of hbx1 0).trans rfl
      clear hc
      by_cases hn0 : 0 < n
      · have hn0i : (0 : Int) < n := by omega
        gi_wp2_with fail
        go_roundw
        case rel =>
          refine ⟨k, p + n, pre, by go_num, by omega, by omega, Lib.hid ?_, hJ1, hbx1⟩
          rw [Hi.out, Hit.out, Hdr.out]
          congr 1
          show (if x.data.toList = [] then [] else _) = _
          rw [if_neg Hn0.out, if_pos (by rw [← Hn2.out]; exact hn0), ← Hn2.out]
        case measure => simp [intOf]; omega
      · have hn0i : (n : Int) ≤ 0 := by omega
        have Hstep : Hid (itemsGo (k + 1) p x.data.toList = if x.data.toList.head? = some 59 then itemsGo k (p + lineL x.data.toList) (x.data.toList.drop (lineL x.data.toList)) else
            if (oneL x.data.toList).2.2 = 0 then [⟨(oneL x.data.toList).1, (oneL x.data.toList).2.1, p, 0⟩] else
            ⟨(oneL x.data.toList).1, (oneL x.data.toList).2.1, p, (oneL x.data.toList).2.2⟩ :: itemsGo k (p + (oneL x.data.toList).2.2) (x.data.toList.drop (oneL x.data.toList).2.2)) := Lib.hid (by
          show (if x.data.toList = [] then [] else _) = _
          rw [if_neg Hn0.out, if_neg (by rw [← Hn2.out]; exact hn0)])
        have Hh := Lib.hid (head_at x hx0)
        have k59 : (((x[0]'hx0).toNat : Int) == 59) = decide (x[0]'hx0 = 59) := beqU (by decide)
        by_cases c59 : x[0]'hx0 = 59
        · rw [decide_eq_true c59] at k59
          have C59 := Lib.hid c59
          clear c59
          gi_wp2_with fail
          refine inCall (cut_calls x _ (by omega)) ?_
          rintro e w2 ⟨r, q, rfl, hb2⟩
          obtain ⟨m, hm0⟩ : ∃ m, lineL x.data.toList = m := ⟨_, rfl⟩
          have hm1 := lineL_le x.data.toList
          have hm2 : 1 ≤ lineL x.data.toList := lineL_pos (by rw [Hh.out, C59.out])
          rw [hm0] at hm1 hm2
          rw [← Lib.size_eq] at hm1
          have Hm := Lib.hid hm0
          have hms : (x.extract 0 m).size = m := by rw [Lib.size_eq, ext_to, List.length_take, ← Lib.size_eq]; omega
          rw [hm0]
          clear hm0
          have hJ2 := hJ _ _ _ hJ1 hb2
          have hbx2 := below_lt hb2 hbx1
          gi_wp2_with fail
          clear hms
          go_roundw
          case rel =>
            refine ⟨k, p + m, pre, by go_num, by omega, by omega, Lib.hid ?_, hJ2, hbx2⟩
            rw [Hi.out, Hit.out, Hdr.out, Hstep.out, if_pos (by rw [Hh.out, C59.out]), Hm.out]
          case measure => simp [intOf]; omega
        · rw [decide_eq_false c59] at k59
          have C59 := Lib.hid c59
          clear c59
          have Hstep2 := Lib.hid (Hstep.out.trans (if_neg (by rw [Hh.out]; exact fun e => C59.out (Option.some.inj e))))
          gi_wp2_with fail
          refine inCall (one_calls x _ (by omega) hx0) ?_
          rintro e w2 ⟨rfl, hb2⟩
          have hle : (oneL x.data.toList).2.2 ≤ x.size := by rw [Lib.size_eq]; exact oneL_le _ Hn0.out
          obtain ⟨t, ht0⟩ : ∃ t, oneL x.data.toList = t := ⟨_, rfl⟩
          rw [ht0] at hle ⊢
          have Ht := Lib.hid ht0
          clear ht0
          obtain ⟨tk, tx, tn⟩ := t
          dsimp only at hle ⊢
          have hJ2 := hJ _ _ _ hJ1 hb2
          have hbx2 := below_lt hb2 hbx1
          obtain ⟨W3, hW3⟩ : ∃ W3, w2.alloc (.cells #[.int .i64 (tk : Int), .string (bs tx), .int .i64 (p : Int)] 43) = W3 := ⟨_, rfl⟩
          have hb3 : Below w2.heap.size w2 W3 := by rw [← hW3]; exact (Below.refl _ _).alloc (Nat.le_refl _) _
          have hJ3 := hJ _ _ _ hJ2 hb3
          have hbx3 := below_lt hb3 hbx2
          have hblk : W3.heap[w2.heap.size]? = some (.cells #[.int .i64 (tk : Int), .string (bs tx), .int .i64 (p : Int)] 43 (0, 0)) := by rw [← hW3]; exact heap_new _ _ _ rfl
          have d0 := (cell_of hblk 0).trans rfl
          have d1 := (cell_of hblk 1).trans rfl
          have d2 := (cell_of hblk 2).trans rfl
          have Hit3 : Hid (itemsGo (k + 1) p x.data.toList = ⟨tk, tx, p, tn⟩ :: (if tn = 0 then [] else itemsGo k (p + tn) (x.data.toList.drop tn))) := Lib.hid (by
            rw [Hstep2.out, Ht.out]; dsimp only
            by_cases h : tn = 0
            · rw [if_pos h, if_pos h, h]
            · rw [if_neg h, if_neg h])
          have Hpf : Hid (pre ++ [(⟨tk, tx, p, tn⟩ : Item)] <+: items s.data.toList) := Lib.hid (by
            rw [Hi.out, Hit.out, Hit3.out]
            exact ⟨_, by rw [List.append_assoc]; rfl⟩)
          obtain ⟨fn, tmps, assign, body, hy, hR⟩ := hY pre ⟨tk, tx, p, tn⟩ W3 hJ3 Hpf.out
          dsimp only [itemV] at hy
          gi_wp2_with fail
          refine ⟨rfl, hR.mono ?_⟩
          rintro e W4 (⟨rfl, hJ4, hk4⟩ | ⟨rfl, hJx4⟩)
          · have htn : tn ≠ 0 := hgood _ _ _ hJ4
            have hbx4 : W4.heap[sB]? = some (.cells #[.string s] 9 (0, 0)) := (show W4.heap[sB]? = W3.heap[sB]? from hk4).trans hbx3
            gi_wp2_with fail
            go_roundw
            case rel =>
              refine ⟨k, p + tn, pre ++ [⟨tk, tx, p, tn⟩], by go_num, by omega, by omega, Lib.hid ?_, hJ4, hbx4⟩
              rw [Hi.out, Hit.out, Hit3.out, if_neg htn, Hdr.out, List.append_assoc]; rfl
            case measure => simp [intOf]; omega
          · gi_wp2_with fail
            refine bodyPost_ret (results_none rfl _ _ _) rfl ?_
            exact ⟨⟨_, rfl⟩, .inr ⟨_, Hpf.out, hJx4⟩⟩
    · have hge : (s.size : Int) ≤ p := by omega
      gi_wp2_with fail
      refine bodyPost_end (results_none rfl _ _ _) rfl ?_
      refine ⟨⟨_, rfl⟩, .inl ⟨pre, ?_, hJs⟩⟩
      have hd : s.data.toList.drop p = [] := List.drop_eq_nil_of_le (by rw [← Lib.size_eq]; omega)
      rw [Hi.out, hd]
      cases k <;> simp [itemsGo]
end Go.Proofs.YtndejiminaopeaaDoor
