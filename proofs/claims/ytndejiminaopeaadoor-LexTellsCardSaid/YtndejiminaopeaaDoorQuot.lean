/- lex.quoted by its contract. -/
import Derived.Test.YtndejiminaopeaaDoorEsc
import Derived.Maps.AppendAt
import Derived.Laws.Cells
namespace Go.Proofs.YtndejiminaopeaaDoor
open Go.RowKit

theorem indexByte_lt (l : List UInt8) (c : UInt8) : Lib.indexByte l c < l.length + 1 ∧ (l ≠ [] → Lib.indexByte l c < l.length) := by
  induction l with
  | nil => simp [Lib.indexByte]
  | cons a l ih =>
    have h : Lib.indexByte (a :: l) c < (a :: l).length := by
      simp only [Lib.indexByte, List.length_cons]
      cases l with
      | nil => simp [Lib.indexByte]; split <;> omega
      | cons b l =>
        have := ih.2 (by simp)
        simp only [List.length_cons] at this ⊢
        split
        · omega
        · split <;> omega
    exact ⟨by omega, fun _ => h⟩
theorem hexAt_lt (b : UInt8) : hexAt b < 16 := by
  have := (indexByte_lt smallL b).2 (by decide)
  have hl : smallL.length = 16 := rfl
  unfold hexAt
  omega
theorem escL_le (l : List UInt8) : (escL l).2 ≤ l.length := by
  unfold escL
  repeat' split
  all_goals simp
theorem escL_byte (l : List UInt8) : (escL l).1 < 256 := by
  unfold escL
  repeat' split
  all_goals try simp
  all_goals
    rename_i a b _ _
    have h1 := hexAt_lt a; have h2 := hexAt_lt b
    omega
/-- The cells of a row of bytes. -/
def byteV (b : UInt8) : Value := .int .u8 (b.toNat : Int)
theorem run_string_of {P : Program} (w : World) (src dst e : TypeId) (base : Nat) (v : Value) (l : List UInt8)
    (hs : P.underlying src = some (.slice e)) (he : P.underlying e = some (.int .u8)) (hd : P.underlying dst = some .string) (h : w.ownsRow base e 1 v l.length (l.map byteV)) :
    (convert src dst v).run P w = .ok (.string (bs l)) w := by
  rcases h.2 with ⟨rfl, hn⟩ | ⟨g, cap, cur, rfl, _, hg, hcap, _, _, htake⟩
  · have : l = [] := List.length_eq_zero_iff.1 hn
    subst this
    rw [run_convert_bytes_string w src dst e _ _ _ hs he hd]
    rfl
  · rw [run_convert_bytes_string w src dst e _ _ _ hs he hd]
    have hload : (loadCells ⟨g, 0, none⟩ l.length).run P w = .ok ((l.map fun b => (b.toNat : Int)).map (Value.int .u8)).toArray w := by
      have := run_loadCells_list (P := P) (w := w) ⟨g, 0, none⟩ (l.map byteV) (fun j u hu => h.cells (g := g) rfl j u hu)
      rw [List.length_map] at this
      rw [this]
      simp [byteV, Function.comp_def]
    rw [run_bytesToString w _ _ _ _ hload]
    congr 2
    have key : ∀ (l : List UInt8) (acc : ByteArray), (l.map fun b => (b.toNat : Int)).foldl (fun r n => r.push (UInt8.ofNat n.toNat)) acc = bs (acc.data.toList ++ l) := by
      intro l
      induction l with
      | nil => intro acc; simp [bs_data]
      | cons a l ih =>
        intro acc
        rw [List.map_cons, List.foldl_cons, ih]
        congr 1
        simp [ByteArray.push]
    exact key l _

theorem infoB : (Tryd.prog.info? 5).map (fun i => (i.zero, i.size, i.bytes)) = some (some (.int .u8 0), 1, 1) := by kernel_rfl

theorem drop_at (s : ByteArray) (n : Nat) (h : n < s.size) : s.data.toList.drop n = (s[n]'h) :: s.data.toList.drop (n + 1) := by
  have h' : n < s.data.toList.length := by rw [← Lib.size_eq]; exact h
  rw [List.drop_eq_getElem_cons h']; rfl

theorem quotGo_step (k : Nat) (c : UInt8) (r : List UInt8) (n : Nat) (acc : List UInt8) : quotGo (k + 1) (c :: r) n acc =
    if c = 34 then (acc, n + 1) else
    if c = 92 then (if (escL r).2 = 0 then ([], 0) else quotGo k (r.drop (escL r).2) (n + 1 + (escL r).2) (acc ++ [UInt8.ofNat (escL r).1])) else
    if c < 32 ∨ 126 < c then ([], 0) else quotGo k r (n + 1) (acc ++ [c]) := rfl

theorem escape_any (s : ByteArray) (w : World) (hs : s.size ≤ 9223372036854775800) :
    Calls Tryd.prog 80 #[.string s] w fun e w' => ∃ b m : Nat, e = .returned (.tuple #[.int .u8 (b : Int), .int .i64 (m : Int)]) ∧ m ≤ s.size ∧ b < 256 ∧ Hid (escL s.data.toList = (b, m)) ∧ Below w.heap.size w w' :=
  (escape_calls s w hs).mono fun _ _ ⟨h1, h2⟩ => ⟨_, _, h1, by rw [Lib.size_eq]; exact escL_le _, escL_byte _, Lib.hid rfl, h2⟩
theorem byteV_ofNat {b : Nat} (h : b < 256) : byteV (UInt8.ofNat b) = .int .u8 (b : Int) := by unfold byteV; simp; omega
set_option maxRecDepth 100000 in
set_option maxHeartbeats 1000000 in
theorem quoted_calls (s : ByteArray) (w : World) (hs : s.size ≤ 140737488355000) :
    Calls Tryd.prog 69 #[.string s] w fun e w' => e = .returned (.tuple #[.string (bs (quotL s.data.toList).1), .int .i64 ((quotL s.data.toList).2 : Nat)]) ∧ Below w.heap.size w w' := by
  obtain ⟨i0, hi, hz0, hz1, hz2⟩ := info_parts infoB
  have Hspec : Hid (quotL s.data.toList = quotGo s.size (s.data.toList.drop 1) 1 []) := Lib.hid (by rw [Lib.size_eq]; rfl)
  go_enter Tryd.func69, Tryd.ntmps69
  go_wp2_with fail
  go_loopw [3, 4] (fun v3 v4 wr => ∃ (k n : Nat) (acc : List UInt8), v3 = .int .i64 (n : Int) ∧ wr.ownsRow w.heap.size 5 1 v4 acc.length (acc.map byteV) ∧ acc.length ≤ n ∧ 1 ≤ n ∧ s.size ≤ n + k ∧ Hid (quotL s.data.toList = quotGo k (s.data.toList.drop n) n acc) ∧ Below w.heap.size w wr) (fun v3 _ _ => s.size + 1 - (intOf v3).toNat)
  case atStart => exact ⟨s.size, 1, [], rfl, World.ownsRow_nil _ _ _ _, by simp, by omega, by omega, Hspec, Below.refl _ _⟩
  case round =>
    obtain ⟨k, n, acc, rfl, hown, hacc, hn1, hk, Hq, hB⟩ := hrel
    by_cases hlt : n < s.size
    · have hlti : (n : Int) < (s.size : Int) := by omega
      obtain ⟨k, rfl⟩ : ∃ m, k = m + 1 := ⟨k - 1, by omega⟩
      have Hq2 : Hid (quotL s.data.toList = quotGo (k + 1) ((s[n]'hlt) :: s.data.toList.drop (n + 1)) n acc) := Lib.hid (by rw [Hq.out, drop_at s n hlt])
      clear Hq
      have k34 : (((s[n]'hlt).toNat : Int) == 34) = decide (s[n]'hlt = 34) := beqU (by decide)
      have k92 : (((s[n]'hlt).toNat : Int) == 92) = decide (s[n]'hlt = 92) := beqU (by decide)
      by_cases c1 : s[n]'hlt = 34
      · rw [decide_eq_true c1] at k34
        clear k92
        have C1 := Lib.hid c1; clear c1
        have hconv := run_string_of (P := Tryd.prog) wr 24 9 5 w.heap.size _ acc Tryd.underlying24 Tryd.underlying5 Tryd.underlying9 hown
        go_wp2_with fail
        go_ret2
        refine ⟨?_, hB⟩
        rw [Hq2.out, quotGo_step, if_pos C1.out]; rfl
      · rw [decide_eq_false c1] at k34
        have C1 := Lib.hid c1; clear c1
        by_cases c2 : s[n]'hlt = 92
        · rw [decide_eq_true c2] at k92
          have C2 := Lib.hid c2; clear c2
          have hx := ext_size_le s (n + 1) s.size
          have Hx := Lib.hid (ext_from s (n + 1))
          go_wp2_with fail
          refine (escape_any _ _ (by omega)).mono ?_
          rintro e w1 ⟨b, m, rfl, hm, hb, He, hb1⟩
          by_cases hm0 : m = 0
          · subst hm0
            go_wp2_with fail
            go_ret2
            refine ⟨?_, hB.trans (hb1.mono hB.size)⟩
            have he := He.out
            rw [Hx.out] at he
            rw [Hq2.out, quotGo_step, if_neg C1.out, if_pos C2.out, he]; rfl
          · have hm1 : ((m : Int) == 0) = false := by simp; omega
            have hown1 : w1.ownsRow w.heap.size 5 1 u4 acc.length (acc.map byteV) := owns_below hown hb1
            go_wp2_with (at_builtin; refine wpList_append_own _ rfl _ _ 24 rfl w.heap.size 5 i0 (.int .u8 0) 1 1 Tryd.underlying24 hi hz0 hz1 hz2 rfl (by decide) _ _ _ rfl (hown1.alloc _) ⟨w1.heap.size, 0, none⟩ 1 1 [.int .u8 (b : Int)] rfl rfl ?c1 ?c2 ?c3 ?c4 ?c5 ?_)
            case c1 => exact cell_one_new _ _ _
            case c2 => simp [Value.oneCell']
            case c3 => unfold maxLen; omega
            case c4 => omega
            case c5 => have := hB.size; have := hb1.size; simp; omega
            intro v' w' hown' hgrow _
            have hown2 : w'.ownsRow w.heap.size 5 1 v' (acc ++ [UInt8.ofNat b]).length ((acc ++ [UInt8.ofNat b]).map byteV) := by
              rw [List.map_append, List.length_append, List.map_cons, List.map_nil, byteV_ofNat hb]; exact hown'
            have hB2 : Below w.heap.size w w' := ((hB.trans (hb1.mono hB.size)).alloc (by have := hB.size; have := hb1.size; omega) _).grown hgrow (by have := hB.size; have := hb1.size; simp; omega) (owns_lt hown)
            clear hown' hgrow hown hown1 hb1
            go_wp2_with fail
            go_roundw
            case rel =>
              refine ⟨k, n + 1 + m, acc ++ [UInt8.ofNat b], by go_num, hown2, by simp; omega, by omega, by omega, ?_, hB2⟩
              have he := He.out
              rw [Hx.out] at he
              exact Lib.hid (by rw [Hq2.out, quotGo_step, if_neg C1.out, if_pos C2.out, he, if_neg hm0, List.drop_drop])
            case measure => simp [intOf]; omega
        · rw [decide_eq_false c2] at k92
          have C2 := Lib.hid c2; clear c2
          have hlo : ((s[n]'hlt).toNat : Int) < 32 ↔ s[n]'hlt < 32 := by rw [UInt8.lt_iff_toNat_lt]; simp; omega
          have hhi : (126 : Int) < ((s[n]'hlt).toNat : Int) ↔ 126 < s[n]'hlt := by rw [UInt8.lt_iff_toNat_lt]; simp; omega
          by_cases c3 : s[n]'hlt < 32
          · have C3 := Lib.hid c3
            have c3i := hlo.2 c3
            clear hlo hhi c3
            go_wp2_with fail
            go_ret2
            refine ⟨?_, hB⟩
            rw [Hq2.out, quotGo_step, if_neg C1.out, if_neg C2.out, if_pos (.inl C3.out)]; rfl
          · by_cases c4 : 126 < s[n]'hlt
            · have C4 := Lib.hid c4
              have c3i : (32 : Int) ≤ ((s[n]'hlt).toNat : Int) := by have : ¬ ((s[n]'hlt).toNat : Int) < 32 := fun h => c3 (hlo.1 h); omega
              have c4i := hhi.2 c4
              clear hlo hhi c3 c4
              go_wp2_with fail
              go_ret2
              refine ⟨?_, hB⟩
              rw [Hq2.out, quotGo_step, if_neg C1.out, if_neg C2.out, if_pos (.inr C4.out)]; rfl
            · have C5 : Hid (¬ (s[n]'hlt < 32 ∨ 126 < s[n]'hlt)) := Lib.hid (fun h => h.elim c3 c4)
              have c3i : (32 : Int) ≤ ((s[n]'hlt).toNat : Int) := by have : ¬ ((s[n]'hlt).toNat : Int) < 32 := fun h => c3 (hlo.1 h); omega
              have c4i : ((s[n]'hlt).toNat : Int) ≤ 126 := by have : ¬ (126 : Int) < ((s[n]'hlt).toNat : Int) := fun h => c4 (hhi.1 h); omega
              clear hlo hhi c3 c4
              go_wp2_with (at_builtin; refine wpList_append_own _ rfl _ _ 24 rfl w.heap.size 5 i0 (.int .u8 0) 1 1 Tryd.underlying24 hi hz0 hz1 hz2 rfl (by decide) _ _ _ rfl (hown.alloc _) ⟨wr.heap.size, 0, none⟩ 1 1 [byteV (s[n]'hlt)] rfl rfl ?c1 ?c2 ?c3 ?c4 ?c5 ?_)
              case c1 => exact cell_one_new _ _ _
              case c2 => simp [Value.oneCell', byteV]
              case c3 => unfold maxLen; omega
              case c4 => omega
              case c5 => have := hB.size; simp; omega
              intro v' w' hown' hgrow _
              have hown2 : w'.ownsRow w.heap.size 5 1 v' (acc ++ [s[n]'hlt]).length ((acc ++ [s[n]'hlt]).map byteV) := by
                rw [List.map_append, List.length_append, List.map_cons, List.map_nil]; exact hown'
              have hB2 : Below w.heap.size w w' := (hB.alloc hB.size _).grown hgrow (by have := hB.size; simp; omega) (owns_lt hown)
              clear hown' hgrow hown
              go_wp2_with fail
              go_roundw
              case rel =>
                refine ⟨k, n + 1, acc ++ [s[n]'hlt], by go_num, hown2, by simp; omega, by omega, by omega, ?_, hB2⟩
                exact Lib.hid (by rw [Hq2.out, quotGo_step, if_neg C1.out, if_neg C2.out, if_neg C5.out])
              case measure => simp [intOf]; omega
    · have hge : (s.size : Int) ≤ (n : Int) := by omega
      go_wp2_with fail
      go_ret2
      refine ⟨?_, hB⟩
      have hd : s.data.toList.drop n = [] := List.drop_eq_nil_of_le (by rw [← Lib.size_eq]; omega)
      rw [Hq.out, hd]
      cases k <;> rfl
end Go.Proofs.YtndejiminaopeaaDoor
