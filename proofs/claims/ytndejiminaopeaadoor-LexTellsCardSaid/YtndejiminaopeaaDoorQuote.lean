/- lex.Quote by its contract. -/
import Derived.Test.YtndejiminaopeaaDoorBuild
import Derived.Test.YtndejiminaopeaaDoorQuotePlain
import Derived.Test.YtndejiminaopeaaDoorKinds
import Derived.Shelf.RegionOpenPlain
namespace Go.Proofs.YtndejiminaopeaaDoor
open Go.RowKit

theorem bc_app (x y : List UInt8) : Lib.byteCells (34 :: x) ++ Lib.byteCells y = Lib.byteCells (34 :: (x ++ y)) := by simp [Lib.byteCells]
theorem beq_ne {a b : UInt8} (h : ¬ a = b) : ((a.toNat : Int) == (b.toNat : Int)) = false := by
  simp only [beq_eq_false_iff_ne, ne_eq]
  exact fun e => h (u8_of_int e)
theorem and_15 (c : UInt8) : bits BinOp.and IntKind.u8 (c.toNat : Int) 15 = ((c.toNat % 16 : Nat) : Int) := by
  have := u8_all (p := fun c => decide (bits BinOp.and IntKind.u8 (c.toNat : Int) 15 = ((c.toNat % 16 : Nat) : Int))) (by decide +kernel) c
  simpa using this
theorem idx_hex (k : Nat) (hk : k < 16) (w : World) : (Instr.index 9 (.string ⟨#[48, 49, 50, 51, 52, 53, 54, 55, 56, 57, 97, 98, 99, 100, 101, 102]⟩) (.int .u8 (k : Int))).run Tryd.prog w = .ok (.int .u8 ((smallL.getD k 0).toNat : Int)) w := by
  rw [run_index_string _ _ _ _ _ Tryd.underlying9, dif_pos ⟨by omega, by simp [ByteArray.size]; omega⟩]
  have : ∀ (k : Nat) (hk : k < 16), ((⟨#[48, 49, 50, 51, 52, 53, 54, 55, 56, 57, 97, 98, 99, 100, 101, 102]⟩ : ByteArray)[k]'(by simp [ByteArray.size]; omega)) = smallL.getD k 0 := by decide +kernel
  simp only [Int.toNat_natCast]
  rw [this k hk]
theorem bAt_alloc {T e : TypeId} {B b : Nat} {p : Value} {l : List Value} {w : World} (h : Lib.BuilderAt T e B b p l w) (o : Obj) : Lib.BuilderAt T e B b p l (w.alloc o) := by
  obtain ⟨h1, v, h2, h3, h4⟩ := h
  exact ⟨h1, v, (heap_old _ _ _ (lt_of_heap h2)).trans h2, h3.alloc o, h4⟩
theorem conv_two (a b : UInt8) (W : World) (g : Nat) (h : W.heap[g]? = some (.cells #[.int .u8 (a.toNat : Int), .int .u8 (b.toNat : Int)] 5 (0, 0))) :
    (convert 24 9 (.slice (some ⟨g, 0, none⟩) 2 2)).run Tryd.prog W = .ok (.string ⟨#[a, b]⟩) W := by
  refine run_convert_bytes_back W _ _ 5 ⟨g, 0, none⟩ 2 [a, b] Tryd.underlying24 Tryd.underlying5 Tryd.underlying9 ?_
  intro j hj
  have e : (Addr.add ⟨g, 0, none⟩ j) = (⟨g, j, none⟩ : Addr) := by by_cases h0 : j = 0 <;> simp [Addr.add, h0]
  rw [e, cell_of h]
  match j, hj with
  | 0, _ => rfl
  | 1, _ => rfl
theorem below_alloc' {w w' : World} {o : Obj} (h : Below w.heap.size (w.alloc o) w') : Below w.heap.size w w' := ((Below.refl _ w).alloc (Nat.le_refl _) o).trans h
theorem take_enc (s : ByteArray) (i : Nat) (h : i < s.size) : bodyL (s.data.toList.take (i + 1)) = bodyL (s.data.toList.take i) ++ encB (s[i]'h) := by
  have hl : i < s.data.toList.length := by rw [← Lib.size_eq]; exact h
  rw [List.take_succ_eq_append_getElem hl, bodyL_app]
  congr 1
  simp [bodyL]
  rfl
set_option maxRecDepth 100000 in
set_option maxHeartbeats 4000000 in
theorem Quote_calls (s : ByteArray) (w : World) (hs : s.size ≤ 1000000) :
    Calls Tryd.prog 22 #[.string s] w fun e w' => e = .returned (.string (bs (quoteL s.data.toList))) ∧ Below w.heap.size w w' := by
  go_enter Tryd.func22, Tryd.ntmps22
  go_wp2_with fail
  refine (WriteByte_calls w.heap.size w.heap.size [] 34 _ (.inl ⟨Nat.le_refl _, _, heap_new _ _ _ rfl, World.ownsRow_nil _ _ _ _, by simp [Value.ownBlock]⟩) (by simp) (by simp)).mono ?_
  rintro e w1 ⟨rfl, hB, hb⟩
  have HB1 := Lib.hid (below_alloc' hb)
  have hB1 : Hid (Lib.BuilderAt 70 5 w.heap.size w.heap.size (.pointer (some ⟨w.heap.size, 0, none⟩)) (Lib.byteCells (34 :: bodyL (s.data.toList.take 0))) w1) := Lib.hid hB
  clear hB hb
  go_wp2_with fail
  go_loopw [9] (fun v9 wr => ∃ i : Nat, v9 = .int .i64 (i : Int) ∧ i ≤ s.size ∧ Hid (Lib.BuilderAt 70 5 w.heap.size w.heap.size (.pointer (some ⟨w.heap.size, 0, none⟩)) (Lib.byteCells (34 :: bodyL (s.data.toList.take i))) wr) ∧ Hid (Below w.heap.size w wr)) (fun v9 _ => s.size - (intOf v9).toNat)
  case atStart => exact ⟨0, rfl, by omega, hB1, HB1⟩
  case round =>
    obtain ⟨i, rfl, hi, hB, HB⟩ := hrel
    by_cases hlt : i < s.size
    · have hlti : (i : Int) < s.size := by omega
      have hlti1 : (i : Int) + 1 ≤ s.size := by omega
      have hlen : (Lib.byteCells (34 :: bodyL (s.data.toList.take i))).length + 4 ≤ 140737488355328 := by
        have := bodyL_len (s.data.toList.take i)
        rw [List.length_take] at this
        rw [Lib.byteCells_length, List.length_cons]; omega
      have Hst : Hid (bodyL (s.data.toList.take (i + 1)) = bodyL (s.data.toList.take i) ++ encB (s[i]'hlt)) := Lib.hid (take_enc s i hlt)
      have Hsz := Lib.hid HB.out.size
      obtain ⟨c, hc⟩ : ∃ c, s[i]'hlt = c := ⟨_, rfl⟩
      rw [hc] at Hst
      by_cases c10 : c = 10
      · have k1 : (((s[i]'hlt).toNat : Int) == 10) = true := by rw [hc, c10]; rfl
        have He : Hid (encB c = [92, 110]) := Lib.hid (by unfold encB; rw [if_pos c10])
        clear c10 hc
        go_wp2_with fail
        refine (WriteString_calls w.heap.size w.heap.size _ ⟨#[92, 110]⟩ _ (.inr hB.out) (Nat.le_trans (Nat.add_le_add_left (by decide) _) hlen) Hsz.out).mono ?_
        rintro e w2 ⟨rfl, hB2, hb2⟩
        go_wp2_with fail
        refine ⟨⟨i + 1, by go_num, by omega, Lib.hid ?_, Lib.hid (HB.out.trans hb2)⟩, by simp [intOf]; omega⟩
        rw [Hst.out, He.out, ← bc_app]
        exact hB2
      · have k1 : (((s[i]'hlt).toNat : Int) == 10) = false := by rw [hc]; exact beq_ne c10
        by_cases c34 : c = 34 ∨ c = 92
        · have He : Hid (encB c = [92, c]) := Lib.hid (by unfold encB; rw [if_neg c10, if_pos c34])
          have hnat : ((i : Int) + 1).toNat = i + 1 := by omega
          have hx := ext_one s i hlt
          have hsl : ∀ wx, (Instr.slice 9 (.string s) (some (.int .i64 (i : Int))) (some (.int .i64 ((i : Int) + 1))) none).run Tryd.prog wx = .ok (.string ⟨#[s[i]'hlt]⟩) wx := fun wx => by
            rw [run_slice_string wx _ _ _ _ _ _ Tryd.underlying9 (by omega) (by omega) hlti1, hnat, ← hx]; rfl
          clear hx hnat
          rcases c34 with c34 | c34
          · have k2 : (((s[i]'hlt).toNat : Int) == 34) = true := by rw [hc, c34]; rfl
            have Hc := Lib.hid hc
            clear c34 hc c10
            go_wp2_with fail
            refine (WriteString_calls w.heap.size w.heap.size _ _ _ (.inr hB.out) (Nat.le_trans (Nat.add_le_add_left (show 2 ≤ 4 by decide) _) hlen) Hsz.out).mono ?_
            rintro e w2 ⟨rfl, hB2, hb2⟩
            rw [Hc.out] at hB2
            go_wp2_with fail
            refine ⟨⟨i + 1, by go_num, by omega, Lib.hid ?_, Lib.hid (HB.out.trans hb2)⟩, by simp [intOf]; omega⟩
            rw [Hst.out, He.out, ← bc_app]
            exact hB2
          · have k2 : (((s[i]'hlt).toNat : Int) == 34) = false := by rw [hc, c34]; rfl
            have k3 : (((s[i]'hlt).toNat : Int) == 92) = true := by rw [hc, c34]; rfl
            have Hc := Lib.hid hc
            clear c34 hc c10
            go_wp2_with fail
            refine (WriteString_calls w.heap.size w.heap.size _ _ _ (.inr hB.out) (Nat.le_trans (Nat.add_le_add_left (show 2 ≤ 4 by decide) _) hlen) Hsz.out).mono ?_
            rintro e w2 ⟨rfl, hB2, hb2⟩
            rw [Hc.out] at hB2
            go_wp2_with fail
            refine ⟨⟨i + 1, by go_num, by omega, Lib.hid ?_, Lib.hid (HB.out.trans hb2)⟩, by simp [intOf]; omega⟩
            rw [Hst.out, He.out, ← bc_app]
            exact hB2
        · have k2 : (((s[i]'hlt).toNat : Int) == 34) = false := by rw [hc]; exact beq_ne (fun h => c34 (.inl h))
          have k3 : (((s[i]'hlt).toNat : Int) == 92) = false := by rw [hc]; exact beq_ne (fun h => c34 (.inr h))
          by_cases cp : 32 ≤ c ∧ c ≤ 126
          · have He : Hid (encB c = [c]) := Lib.hid (by unfold encB; rw [if_neg c10, if_neg c34, if_pos cp])
            have k4 : (32 : Int) ≤ ((s[i]'hlt).toNat : Int) := by rw [hc]; have := UInt8.le_iff_toNat_le.1 cp.1; simp at this; omega
            have k5 : ((s[i]'hlt).toNat : Int) ≤ 126 := by rw [hc]; have := UInt8.le_iff_toNat_le.1 cp.2; simp at this; omega
            have Hc := Lib.hid hc
            clear c34 hc c10 cp
            go_wp2_with fail
            refine (WriteByte_calls w.heap.size w.heap.size _ _ _ (.inr hB.out) (Nat.le_trans (Nat.add_le_add_left (by decide) _) hlen) Hsz.out).mono ?_
            rintro e w2 ⟨rfl, hB2, hb2⟩
            rw [Hc.out] at hB2
            go_wp2_with fail
            refine ⟨⟨i + 1, by go_num, by omega, Lib.hid ?_, Lib.hid (HB.out.trans hb2)⟩, by simp [intOf]; omega⟩
            rw [Hst.out, He.out, ← bc_app]
            exact hB2
          · have He : Hid (encB c = [92, 120, smallL.getD (c.toNat / 16) 0, smallL.getD (c.toNat % 16) 0]) := Lib.hid (by unfold encB; rw [if_neg c10, if_neg c34, if_neg cp])
            by_cases clo : c.toNat < 32
            · have k4 : ((s[i]'hlt).toNat : Int) < 32 := by rw [hc]; omega
              have Hc := Lib.hid hc
              clear c34 hc c10 cp
              go_wp2_with fail
              obtain ⟨da, hda⟩ : ∃ a, smallL.getD (c.toNat / 16) 0 = a := ⟨_, rfl⟩
              obtain ⟨db, hdb⟩ : ∃ a, smallL.getD (c.toNat % 16) 0 = a := ⟨_, rfl⟩
              have hix1 : ∀ wx, (Instr.index 9 (.string ⟨#[48, 49, 50, 51, 52, 53, 54, 55, 56, 57, 97, 98, 99, 100, 101, 102]⟩) (.int .u8 (((s[i]'hlt).toNat : Int) / 16))).run Tryd.prog wx = .ok (.int .u8 (da.toNat : Int)) wx := fun wx => by
                rw [Hc.out, ← hda]; exact idx_hex (c.toNat / 16) (by have := UInt8.toNat_lt c; omega) wx
              have hix2 : ∀ wx, (Instr.index 9 (.string ⟨#[48, 49, 50, 51, 52, 53, 54, 55, 56, 57, 97, 98, 99, 100, 101, 102]⟩) (.int .u8 (bits BinOp.and IntKind.u8 ((s[i]'hlt).toNat : Int) 15))).run Tryd.prog wx = .ok (.int .u8 (db.toNat : Int)) wx := fun wx => by
                rw [Hc.out, and_15, ← hdb]; exact idx_hex (c.toNat % 16) (by omega) wx
              rw [hda, hdb] at He
              clear hda hdb
              have Had := Lib.hid (bAt_alloc (w := wr.drew) hB.out (.cells #[.int .u8 (da.toNat : Int), .int .u8 (db.toNat : Int)] 5))
              have hcv : (convert 24 9 (.slice (some ⟨wr.heap.size, 0, none⟩) 2 2)).run Tryd.prog (wr.alloc (.cells #[.int .u8 (da.toNat : Int), .int .u8 (db.toNat : Int)] 5)).drew = .ok (.string ⟨#[da, db]⟩) (wr.alloc (.cells #[.int .u8 (da.toNat : Int), .int .u8 (db.toNat : Int)] 5)).drew :=
                conv_two da db _ _ (heap_new _ _ _ rfl)
              have hBw : w.heap.size ≤ ((wr.alloc (.cells #[.int .u8 (da.toNat : Int), .int .u8 (db.toNat : Int)] 5)).drew).heap.size := by have := Hsz.out; simp; omega
              go_region_with ((go_at_call 34; refine (WriteString_calls w.heap.size w.heap.size _ _ _ (.inr Had.out) (Nat.le_trans (Nat.add_le_add_left (show 4 ≤ 4 by decide) _) hlen) hBw).mono ?_; rintro e w2 ⟨rfl, hB2, hb2⟩; have hbq : Below w.heap.size w w2 := (HB.out.alloc Hsz.out _).drew.trans hb2))
              all_goals
                go_wp2_with fail
                refine ⟨⟨i + 1, by go_num, by omega, Lib.hid ?_, Lib.hid hbq⟩, by simp [intOf]; omega⟩
                rw [Hst.out, He.out, ← bc_app]
                exact hB2
            · have k4 : (32 : Int) ≤ ((s[i]'hlt).toNat : Int) := by rw [hc]; omega
              have k5 : (126 : Int) < ((s[i]'hlt).toNat : Int) := by
                rw [hc]
                have h1 : ¬ c.toNat ≤ 126 := fun h => cp ⟨UInt8.le_iff_toNat_le.2 (by simp; omega), UInt8.le_iff_toNat_le.2 (by simpa using h)⟩
                omega
              have Hc := Lib.hid hc
              clear c34 hc c10 cp
              go_wp2_with fail
              obtain ⟨da, hda⟩ : ∃ a, smallL.getD (c.toNat / 16) 0 = a := ⟨_, rfl⟩
              obtain ⟨db, hdb⟩ : ∃ a, smallL.getD (c.toNat % 16) 0 = a := ⟨_, rfl⟩
              have hix1 : ∀ wx, (Instr.index 9 (.string ⟨#[48, 49, 50, 51, 52, 53, 54, 55, 56, 57, 97, 98, 99, 100, 101, 102]⟩) (.int .u8 (((s[i]'hlt).toNat : Int) / 16))).run Tryd.prog wx = .ok (.int .u8 (da.toNat : Int)) wx := fun wx => by
                rw [Hc.out, ← hda]; exact idx_hex (c.toNat / 16) (by have := UInt8.toNat_lt c; omega) wx
              have hix2 : ∀ wx, (Instr.index 9 (.string ⟨#[48, 49, 50, 51, 52, 53, 54, 55, 56, 57, 97, 98, 99, 100, 101, 102]⟩) (.int .u8 (bits BinOp.and IntKind.u8 ((s[i]'hlt).toNat : Int) 15))).run Tryd.prog wx = .ok (.int .u8 (db.toNat : Int)) wx := fun wx => by
                rw [Hc.out, and_15, ← hdb]; exact idx_hex (c.toNat % 16) (by omega) wx
              rw [hda, hdb] at He
              clear hda hdb
              have Had := Lib.hid (bAt_alloc (w := wr.drew) hB.out (.cells #[.int .u8 (da.toNat : Int), .int .u8 (db.toNat : Int)] 5))
              have hcv : (convert 24 9 (.slice (some ⟨wr.heap.size, 0, none⟩) 2 2)).run Tryd.prog (wr.alloc (.cells #[.int .u8 (da.toNat : Int), .int .u8 (db.toNat : Int)] 5)).drew = .ok (.string ⟨#[da, db]⟩) (wr.alloc (.cells #[.int .u8 (da.toNat : Int), .int .u8 (db.toNat : Int)] 5)).drew :=
                conv_two da db _ _ (heap_new _ _ _ rfl)
              have hBw : w.heap.size ≤ ((wr.alloc (.cells #[.int .u8 (da.toNat : Int), .int .u8 (db.toNat : Int)] 5)).drew).heap.size := by have := Hsz.out; simp; omega
              go_region_with ((go_at_call 34; refine (WriteString_calls w.heap.size w.heap.size _ _ _ (.inr Had.out) (Nat.le_trans (Nat.add_le_add_left (show 4 ≤ 4 by decide) _) hlen) hBw).mono ?_; rintro e w2 ⟨rfl, hB2, hb2⟩; have hbq : Below w.heap.size w w2 := (HB.out.alloc Hsz.out _).drew.trans hb2))
              all_goals
                go_wp2_with fail
                refine ⟨⟨i + 1, by go_num, by omega, Lib.hid ?_, Lib.hid hbq⟩, by simp [intOf]; omega⟩
                rw [Hst.out, He.out, ← bc_app]
                exact hB2
    · have Hie := Lib.hid (show i = s.size by omega)
      have hlen : (Lib.byteCells (34 :: bodyL (s.data.toList.take i))).length + 1 ≤ 140737488355328 := by
        have := bodyL_len (s.data.toList.take i)
        rw [List.length_take] at this
        rw [Lib.byteCells_length, List.length_cons]; omega
      have Hsz := Lib.hid HB.out.size
      go_wp2_with fail
      refine (WriteByte_calls w.heap.size w.heap.size _ _ _ (.inr hB.out) hlen Hsz.out).mono ?_
      rintro e w2 ⟨rfl, hB2, hb2⟩
      have hB3 : Lib.IsBuilder 70 5 w.heap.size w.heap.size (Lib.byteCells (quoteL s.data.toList)) w2 := .inr (by
        have e1 := bc_app (bodyL (s.data.toList.take i)) [34]
        rw [Hie.out, Lib.size_eq, List.take_length] at hB2 e1
        unfold quoteL
        rw [← e1]
        exact hB2)
      have HB3 := Lib.hid hB3
      clear hB3 hB2
      go_wp2_with fail
      refine (Tryd.Builder_String w.heap.size w.heap.size (quoteL s.data.toList) _ HB3.out (by simp [quoteL])).mono ?_
      rintro e w3 ⟨rfl, hb3⟩
      go_wp2_with fail
      go_ret
      exact ⟨rfl, HB.out.trans (hb2.trans hb3)⟩
end Go.Proofs.YtndejiminaopeaaDoor
