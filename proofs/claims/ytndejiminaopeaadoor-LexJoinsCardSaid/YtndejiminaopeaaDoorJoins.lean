/- LexJoins: the walk. -/
import Derived.Test.YtndejiminaopeaaDoorFew
import Derived.Test.YtndejiminaopeaaDoorJoinsB
import Derived.Test.YtndejiminaopeaaDoorJoinPlain
namespace Go.Proofs.YtndejiminaopeaaDoor
open Go.RowKit

theorem errIs_of {W : World} {ev : Value} {o : Option Nat} {v : Value} {lo : Nat} (h : match o with | none => ev = .nilIface | some p => v = .slice none 0 0 ∧ FaultAt W ev lo 4 (p : Int)) : ErrIs W ev o := by
  cases o with
  | none => exact h
  | some p => exact ⟨_, h.2⟩

theorem tk_at {b : List Tk} {i d : Nat} (h : i < b.length) : (tksV ((b.take i).map (shiftT d) ++ b.drop i))[i * 3 + 2]? = some (.int .i64 ((b[i]'h).pos : Int)) := by
  have hl : (tksV ((b.take i).map (shiftT d))).length = i * 3 := by rw [tksV_len, List.length_map, List.length_take]; congr 1; omega
  rw [tksV_app, List.getElem?_append_right (by omega), hl, show i * 3 + 2 - i * 3 = 2 by omega, List.drop_eq_getElem_cons h]
  rfl
theorem set_step {b : List Tk} {i d p : Nat} (h : i < b.length) (hp : (b[i]'h).pos = p) : (tksV ((b.take i).map (shiftT d) ++ b.drop i)).set (i * 3 + 2) (.int .i64 ((p + d : Nat) : Int)) = tksV ((b.take (i + 1)).map (shiftT d) ++ b.drop (i + 1)) := by
  have hl : ((b.take i).map (shiftT d)).length = i := by rw [List.length_map, List.length_take]; omega
  have := tksV_set ((b.take i).map (shiftT d)) (b.drop (i + 1)) (b[i]'h) (p + d)
  rw [hl] at this
  rw [List.drop_eq_getElem_cons h, this, List.take_succ_eq_append_getElem h, List.map_append, List.append_assoc]
  subst hp
  rfl
theorem kept_below {W W' : World} {base : Nat} {v v1 : Value} {n : Nat} {xs : List Value} {N : Nat} (h : W.ownsRow base 43 3 v n xs) (hg : W.grownBy W' v1.ownBlock) (h1 : ∀ k, v.ownBlock = some k → k < N) (h2 : ∀ k, v1.ownBlock = some k → N ≤ k) : W'.ownsRow base 43 3 v n xs := by
  refine h.kept hg ?_
  cases hq : v.ownBlock with
  | none => exact .inl rfl
  | some k => exact .inr (fun e => Nat.lt_irrefl _ (Nat.lt_of_lt_of_le (h1 k hq) (h2 k e.symm)))
set_option maxRecDepth 100000 in
set_option maxHeartbeats 4000000 in
theorem LexJoins_calls (s0 t0 : ByteArray) (w : World) (hg : Laid0 w) (hs0 : s0.size ≤ 9223372036854775807) (ht0 : t0.size ≤ 9223372036854775807) :
    Calls Tryd.prog 5 #[.string s0, .string t0] w fun e w' => e = .returned (.bool true) ∧ Below w.heap.size w w' := by
  go_enter Tryd.func5, Tryd.ntmps5
  go_wp2_with fail
  refine (works_calls _ hg).mono ?_
  rintro e w1 ⟨rfl, hb1⟩
  have hg1 := Lib.hid (hg.below hb1)
  have HB1 := Lib.hid hb1
  clear hb1
  go_wp2_with fail
  refine (few_calls _ 200 _ hs0 (by decide)).mono ?_
  rintro e w2 ⟨s, rfl, _, hs, hb2⟩
  have hg2 := Lib.hid (hg1.out.below hb2)
  have HB2 := Lib.hid (HB1.out.trans (hb2.mono HB1.out.size))
  clear hb2 HB1 hg1
  go_wp2_with fail
  refine (few_calls _ 200 _ ht0 (by decide)).mono ?_
  rintro e w3 ⟨t, rfl, _, ht, hb3⟩
  have hg3 := Lib.hid (hg2.out.below hb3)
  have HB3 := Lib.hid (HB2.out.trans (hb3.mono HB2.out.size))
  clear hb3 HB2 hg2
  go_wp2_with fail
  refine (Tokens_calls s _ (by omega)).mono ?_
  rintro e w4 ⟨va, ea, rfl, hra, hea, hb4⟩
  have hg4 := Lib.hid (hg3.out.below hb4)
  have HB4 := Lib.hid (HB3.out.trans (hb4.mono HB3.out.size))
  have HS4 := Lib.hid hb4.size
  have HW4 := Lib.hid (HB4.out.size)
  have HLa := Lib.hid (fun k hk => (hra.lt k hk).2)
  have HRa := Lib.hid hra
  have HEa := Lib.hid (errIs_of hea)
  clear hb4 HB3 hg3 hra hea
  go_wp2_with fail
  refine (Tokens_calls t _ (by omega)).mono ?_
  rintro e w5 ⟨vb, eb, rfl, hrb, heb, hb5⟩
  have hg5 := Lib.hid (hg4.out.below hb5)
  have HB5 := Lib.hid (HB4.out.trans (hb5.mono HB4.out.size))
  have HS5 := Lib.hid hb5.size
  have HLb := Lib.hid (fun k hk => (hrb.lt k hk))
  have HRa5 := Lib.hid (owns_below HRa.out hb5)
  have HEa5 := Lib.hid (HEa.out.below hb5)
  have HRb := Lib.hid hrb
  have HEb := Lib.hid (errIs_of heb)
  clear hb5 HB4 hg4 hrb heb HRa HEa
  go_wp2_with fail
  refine (Tokens_calls _ _ (by rw [Lib.size_eq]; simp [← Lib.size_eq]; omega)).mono ?_
  rintro e w6 ⟨vc, ec, rfl, hrc, hec, hb6⟩
  have hg6 := Lib.hid (hg5.out.below hb6)
  have HB6 := Lib.hid (HB5.out.trans (hb6.mono HB5.out.size))
  have HS6 := Lib.hid hb6.size
  have HRa6 := Lib.hid (owns_below HRa5.out hb6)
  have HEa6 := Lib.hid (HEa5.out.below hb6)
  have HRb6 := Lib.hid (owns_below HRb.out hb6)
  have HEb6 := Lib.hid (HEb.out.below hb6)
  have HRc := Lib.hid hrc
  have HEc := Lib.hid (errIs_of hec)
  clear hb6 HB5 hg5 hrc hec HRa5 HEa5 HRb HEb
  have hcat : (s ++ (⟨#[10]⟩ : ByteArray) ++ t).data.toList = s.data.toList ++ 10 :: t.data.toList := by simp
  rw [hcat, toks_join, ← Lib.size_eq s] at HRc HEc
  clear hcat
  rcases hA : toksL s.data.toList with ⟨a, oa⟩
  rcases hB : toksL t.data.toList with ⟨b, ob⟩
  have hla := toks_le s.data.toList
  have hlb := toks_le t.data.toList
  rw [← Lib.size_eq] at hla hlb
  rw [hA] at HRa6 HEa6 HRc HEc hla
  rw [hB] at HRb6 HEb6 HRc HEc hlb
  have HA := Lib.hid hA
  have HB := Lib.hid hB
  clear hA hB
  cases oa with
  | some p =>
    obtain ⟨lo, eb', rfl, hlo, hF⟩ := HEa6.out
    obtain ⟨lo2, eb2, rfl, hlo2, hF2⟩ := HEc.out
    have hvc : ∃ q c, vc = .slice q 0 c := by
      rcases HRc.out.2 with ⟨h, _⟩ | ⟨g, cap, cur, h, _⟩
      · exact ⟨none, 0, h⟩
      · exact ⟨_, _, h⟩
    obtain ⟨q, c, rfl⟩ := hvc
    clear HRc
    go_wp2_with fail
    refine (Told_fault _ lo2 4 p _ hg6.out ⟨eb2, rfl, hlo2, hF2⟩).mono ?_
    rintro e w7 ⟨rfl, hb7⟩
    have hg7 := Lib.hid (hg6.out.below hb7)
    have HB7 := Lib.hid (HB6.out.trans (hb7.mono HB6.out.size))
    have hF7 := below_lt hb7 hF
    clear hb7 HB6 hg6
    go_wp2_with fail
    refine (Told_fault _ lo 4 p _ hg7.out ⟨eb', rfl, hlo, hF7⟩).mono ?_
    rintro e w8 ⟨rfl, hb8⟩
    have HB8 := Lib.hid (HB7.out.trans (hb8.mono HB7.out.size))
    clear hb8 HB7 hg7
    go_wp2_with fail
    go_ret
    exact ⟨rfl, HB8.out⟩
  | none =>
    obtain rfl : ea = .nilIface := HEa6.out
    cases ob with
    | some p =>
      obtain ⟨lo, eb', rfl, hlo, hF⟩ := HEb6.out
      obtain ⟨lo2, eb2, rfl, hlo2, hF2⟩ := HEc.out
      have hp := toks_pos HB.out
      rw [← Lib.size_eq] at hp
      have hfld : ∀ (x y : Int) (W : World), (Instr.field 33 (.agg #[.int .i64 x, .int .i64 y]) 1).run Tryd.prog W = .ok (.int .i64 y) W := fun x y W => by kernel_rfl
      go_wp2_with fail
      refine (Told_fault _ lo2 4 ((p + (s.size + 1) : Nat) : Int) _ hg6.out ⟨eb2, rfl, hlo2, hF2⟩).mono ?_
      rintro e w7 ⟨rfl, hb7⟩
      have hg7 := Lib.hid (hg6.out.below hb7)
      have HB7 := Lib.hid (HB6.out.trans (hb7.mono HB6.out.size))
      have hF7 := below_lt hb7 hF
      clear hb7 HB6 hg6
      go_wp2_with fail
      refine (Told_fault _ lo 4 p _ hg7.out ⟨eb', rfl, hlo, hF7⟩).mono ?_
      rintro e w8 ⟨rfl, hb8⟩
      have HB8 := Lib.hid (HB7.out.trans (hb8.mono HB7.out.size))
      clear hb8 HB7 hg7
      go_wp2_with fail
      go_ret
      exact ⟨rfl, HB8.out⟩
    | none =>
      obtain rfl : eb = .nilIface := HEb6.out
      obtain rfl : ec = .nilIface := HEc.out
      obtain ⟨q, cb, rfl⟩ : ∃ q c, vb = .slice q b.length c := by
        rcases HRb6.out.2 with ⟨h, h0⟩ | ⟨g, cap, cur, h, _⟩
        · exact ⟨none, 0, by rw [h, show b.length = 0 from h0]⟩
        · exact ⟨_, _, h⟩
      obtain ⟨W6, hW6⟩ : ∃ W, W = w6 := ⟨_, rfl⟩
      have HSz := Lib.hid hW6
      clear hW6
      go_wp2_with fail
      go_loopw [11] (fun v11 wr => ∃ i : Nat, v11 = .int .i64 (i : Int) ∧ i ≤ b.length ∧ Hid (wr.ownsRow w4.heap.size 43 3 (.slice q b.length cb) b.length (tksV ((b.take i).map (shiftT (s.size + 1)) ++ b.drop i))) ∧
          Hid (wr.ownsRow w3.heap.size 43 3 va a.length (tksV a)) ∧ Hid (wr.ownsRow w5.heap.size 43 3 vc (a ++ b.map (shiftT (s.size + 1))).length (tksV (a ++ b.map (shiftT (s.size + 1))))) ∧ Hid (Below w.heap.size w wr) ∧ Hid (W6.heap.size ≤ wr.heap.size)) (fun v11 _ => b.length - (intOf v11).toNat)
      case atStart => exact ⟨0, rfl, by omega, Lib.hid (by simpa using HRb6.out), HRa6, HRc, HB6, Lib.hid (by rw [HSz.out]; exact Nat.le_refl _)⟩
      case round =>
        obtain ⟨i, rfl, hi, Hb, Ha, Hc, HBl, Hsz⟩ := hrel
        by_cases hlt : i < b.length
        · have hlti : (i : Int) < b.length := by omega
          obtain ⟨g, rfl, hgl⟩ : ∃ g, q = some ⟨g, 0, none⟩ ∧ w4.heap.size ≤ g := by
            rcases Hb.out.2 with ⟨h, h0⟩ | ⟨g, cap, cur, h, h1, _⟩
            · omega
            · cases h; exact ⟨g, rfl, h1⟩
          have hcell := (Hb.out.cellAt (i * 3 + 2) (by omega)).trans (tk_at hlt)
          have hfz := Hb.out.frozenAt (i * 3 + 2)
          have hpos : Hid ((b[i]'hlt).pos < t.size) := Lib.hid (by rw [Lib.size_eq]; exact toks_pos_all HB.out _ (List.getElem_mem hlt))
          generalize hx : (b[i]'hlt).pos = p at hcell hpos
          have hp := hpos.out
          have Hx := Lib.hid hx
          clear hx
          have Hn : Hid ((p : Int) + (s.size : Int) + 1 = ((p + (s.size + 1) : Nat) : Int)) := Lib.hid (by push_cast; omega)
          go_wp2_with fail
          refine ⟨⟨i + 1, by go_num, by omega, Lib.hid ?_, Lib.hid ?_, Lib.hid ?_, Lib.hid ?_, Lib.hid ?_⟩, by simp [intOf]; omega⟩
          · have := (Hb.out.stored (i * 3 + 2) (.int .i64 ((p : Int) + (s.size : Int) + 1))).1
            rw [Hn.out, set_step hlt Hx.out] at this
            rw [Hn.out]; exact this
          · exact ownsRow_setCell_other Ha.out (fun e => by have := HLa.out _ e; simp at this; omega) _
          · exact ownsRow_setCell_other Hc.out (fun e => by have h1 := (Hc.out.lt _ e).1; have h2 := (HLb.out g rfl).2; simp at h1; omega) _
          · exact HBl.out.setCell (p := ⟨g, i * 3 + 2, none⟩) (Nat.le_trans HW4.out hgl) _
          · simp; exact Hsz.out
        · have hie : i = b.length := by omega
          have Hb2 : Hid (wr.ownsRow w4.heap.size 43 3 (.slice q b.length cb) (b.map (shiftT (s.size + 1))).length (tksV (b.map (shiftT (s.size + 1))))) := Lib.hid (by have := Hb.out; rw [hie] at this; simpa using this)
          have H0 : Hid ((wr.alloc (.cells #[] 43)).ownsRow wr.heap.size 43 3 (.slice (some ⟨wr.heap.size, 0, none⟩) 0 0) ([] : List Tk).length (tksV [])) :=
            Lib.hid ⟨rfl, .inr ⟨_, 0, #[], rfl, Nat.le_refl _, heap_new _ _ _ rfl, Nat.le_refl _, by decide, rfl, rfl⟩⟩
          clear hie
          have hbk : ∀ k, (Value.slice q b.length cb).ownBlock = some k → k < wr.heap.size := fun k hk => (Hb2.out.lt k hk).2
          have hck : ∀ k, vc.ownBlock = some k → k < wr.heap.size := fun k hk => (Hc.out.lt k hk).2
          go_wp2_with (first
            | (refine wpList_append_toks _ _ rfl wr.heap.size w3.heap.size [] a _ _ rfl H0.out rfl (Ha.out.alloc _) (by simp; omega) (by simp) (by rfl) ?_; intro v1 W1 hown1 hgrow1; have hb1 := (Hb2.out.alloc _).kept hgrow1 (.inr (fun e => Nat.lt_irrefl _ (hbk _ e))); have hc1 := (Hc.out.alloc _).kept hgrow1 (.inr (fun e => Nat.lt_irrefl _ (hck _ e))))
            | (refine wpList_append_toks _ _ rfl wr.heap.size w4.heap.size ([] ++ a) (b.map (shiftT (s.size + 1))) _ _ rfl hown1 rfl hb1 (by simp; omega) (by have := hgrow1.size; simp at this; omega) (by rfl) ?_; intro v2 W2 hown2 hgrow2; have hc2 := kept_below hc1 hgrow2 hck (fun k hk => (hown1.lt k hk).1)))
          refine (Same_calls _ _ _ _ true _ (rowAt_owned hc2) (rowAt_owned hown2) (by simp; omega)).mono ?_
          rintro e W3 ⟨rfl, hb3⟩
          have hsame : sameL true (a ++ b.map (shiftT (s.size + 1))) ([] ++ a ++ b.map (shiftT (s.size + 1))) = true := by rw [sameL_true]; simp
          rw [hsame]
          go_wp2_with fail
          go_ret
          refine ⟨rfl, ?_⟩
          have hs1 := HBl.out.size
          have hg1 := hgrow1.size
          simp at hg1
          have e1 := (HBl.out.alloc (o := .cells #[] 43) hs1).grown hgrow1 (by simp; omega) (fun k hk => by cases hk; exact hs1)
          have e2 := e1.grown hgrow2 (by omega) (fun k hk => Nat.le_trans hs1 (hown1.lt k hk).1)
          exact e2.trans (hb3.mono e2.size)
end Go.Proofs.YtndejiminaopeaaDoor
