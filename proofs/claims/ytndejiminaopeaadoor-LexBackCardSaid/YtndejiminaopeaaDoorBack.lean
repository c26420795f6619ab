/- LexBack: the walk. -/
import Derived.Test.YtndejiminaopeaaDoorFew
import Derived.Test.YtndejiminaopeaaDoorRefQ
import Derived.IntWalk
namespace Go.Proofs.YtndejiminaopeaaDoor
open Go.RowKit

/-- A row of bytes that came in. -/
def BytesAt (w : World) (v : Value) (n : Nat) (Z : Nat → UInt8) : Prop := ∃ (A : Option Addr) (c : Nat), v = .slice A n c ∧ ∀ i, i < n → ∃ a, A = some a ∧ w.cell? (a.add i) = some (.int .u8 ((Z i).toNat : Int))

theorem lift_cell {w w' : World} (hb : Below w.heap.size w w') {p : Addr} {v : Value} (h : w.cell? p = some v) : w'.cell? p = some v :=
  (hb.cell (p := p) (by rcases Nat.lt_or_ge p.block w.heap.size with h1 | h1; exact h1; simp [World.cell?, Array.getElem?_eq_none h1] at h)).trans h
theorem mem_snoc {gs : List (List UInt8)} {g : List UInt8} (h : ∀ x ∈ gs, x ∈ gapsL) (hg : g ∈ gapsL) : ∀ x ∈ gs ++ [g], x ∈ gapsL := fun x hx => by
  rcases List.mem_append.1 hx with h1 | h1
  · exact h x h1
  · simp at h1; subst h1; exact hg
theorem size_px {p y : ByteArray} {i : Nat} (hp : p.size ≤ i * 1203) (hy : y.size ≤ 1202) : (p ++ y ++ (⟨#[32]⟩ : ByteArray)).size ≤ (i + 1) * 1203 := by
  rw [ByteArray.size_append, ByteArray.size_append]
  have : (⟨#[32]⟩ : ByteArray).size = 1 := rfl
  omega
theorem size_wx {p y g : ByteArray} {i : Nat} (hp : p.size ≤ i * 1212) (hy : y.size ≤ 1202) (hg : g.size ≤ 10) : (p ++ g ++ y).size ≤ (i + 1) * 1212 := by
  rw [ByteArray.size_append, ByteArray.size_append]
  omega
set_option maxRecDepth 100000 in
set_option maxHeartbeats 4000000 in
theorem LexBack_calls (s0 : ByteArray) (vg : Value) (ng : Nat) (Z : Nat → UInt8) (w : World) (hg : Laid0 w) (hs0 : s0.size ≤ 9223372036854775807) (hgap : BytesAt w vg ng Z) (hng : ng ≤ 9223372036854775807) :
    Calls Tryd.prog 4 #[.string s0, vg] w fun e w' => e = .returned (.bool true) ∧ Below w.heap.size w w' := by
  obtain ⟨A, cg, rfl, HZ⟩ := hgap
  go_enter Tryd.func4, Tryd.ntmps4
  go_wp2_with fail
  refine (works_calls _ hg).mono ?_
  rintro e w1 ⟨rfl, hb1⟩
  have hg1 := Lib.hid (hg.below hb1)
  have HB1 := Lib.hid hb1
  clear hb1
  go_wp2_with fail
  refine (few_calls _ 300 _ hs0 (by decide)).mono ?_
  rintro e w2 ⟨s, rfl, _, hs, hb2⟩
  have hg2 := Lib.hid (hg1.out.below hb2)
  have HB2 := Lib.hid (HB1.out.trans (hb2.mono HB1.out.size))
  clear hb2 HB1 hg1
  go_wp2_with fail
  refine (Tokens_any s _ (by omega)).mono ?_
  rintro e w3 ⟨v, ev, rfl, HR, HE, hb3⟩
  have HB3 := Lib.hid (HB2.out.trans (hb3.mono HB2.out.size))
  clear hb3 HB2 hg2
  rcases ht : toksL s.data.toList with ⟨l, o⟩
  rw [ht] at HR HE
  have hle := toks_le s.data.toList
  rw [ht, ← Lib.size_eq] at hle
  cases o with
  | some p =>
    obtain rfl := toks_none _ ht
    obtain ⟨lo, eb, rfl, _⟩ := HE.out
    obtain ⟨q, c, rfl, _⟩ := HR.out
    clear ht
    go_wp2_with fail
    go_ret
    exact ⟨rfl, HB3.out⟩
  | none =>
    obtain rfl : ev = .nilIface := HE.out
    have Ht := Lib.hid ht
    clear ht
    have Hk := Lib.hid (toks_tok Ht.out)
    have Htx := Lib.hid (toks_text Ht.out)
    obtain ⟨q, cv, rfl, hcv, HL0⟩ := HR.out
    obtain ⟨W3, hW3⟩ : ∃ W, W = w3 := ⟨_, rfl⟩
    have HL := Lib.hid HL0
    clear HL0 HR
    go_wp2_with fail
    go_loopw [7, 8, 9] (fun v7 v8 v9 wr => ∃ (i : Nat) (gs : List (List UInt8)) (px wx : ByteArray), v7 = .string px ∧ v8 = .string wx ∧ v9 = .int .i64 (i : Int) ∧ i ≤ l.length ∧ gs.length = i ∧ Hid (∀ g ∈ gs, g ∈ gapsL) ∧ Hid (px.data.toList = plainL (l.take i)) ∧ Hid (wx.data.toList = wideL (gs.zip (l.take i))) ∧ px.size ≤ i * 1203 ∧ wx.size ≤ i * 1212 ∧ Hid (Below w3.heap.size w3 wr))
      (fun _ _ v9 _ => l.length - (intOf v9).toNat)
    case atStart => exact ⟨0, [], ⟨#[]⟩, ⟨#[]⟩, rfl, rfl, rfl, by omega, rfl, Lib.hid (by simp), Lib.hid rfl, Lib.hid rfl, by decide, by decide, Lib.hid (Below.refl _ _)⟩
    case round =>
      obtain ⟨i, gs, px, wx, rfl, rfl, rfl, hi, hgs, Hgs, Hp, Hw, hpx, hwx, HBr⟩ := hrel
      by_cases hlt : i < l.length
      · have hlti : (i : Int) < l.length := by omega
        obtain ⟨a, rfl, a0, a1, a2⟩ := HL.out i hlt
        have low : ∀ {p : Addr} {v : Value}, W3.cell? p = some v → wr.cell? p = some v := fun {p v} h => by
          subst hW3
          exact (HBr.out.cell (p := p) (by rcases Nat.lt_or_ge p.block W3.heap.size with h1 | h1; exact h1; simp [World.cell?, Array.getElem?_eq_none h1] at h)).trans h
        rw [← hW3] at a0 a1 a2
        have b0 := low a0
        have b1 := low a1
        have b2 := low a2
        clear low
        rw [hW3] at a0 a1 a2
        have hbl0 : (a.add (i * 3)).block < wr.heap.size := by rcases Nat.lt_or_ge (a.add (i * 3)).block wr.heap.size with h1 | h1; exact h1; simp [World.cell?, Array.getElem?_eq_none h1] at b0
        obtain ⟨x, hxa⟩ : ∃ x, l[i]'hlt = x := ⟨_, rfl⟩
        rw [hxa] at b0 b1 b2 a0 a1 a2
        have hxm : x ∈ l := by rw [← hxa]; exact List.getElem_mem hlt
        have hxt : x.text.length ≤ 300 := by have := Htx.out x hxm; rw [← Lib.size_eq] at this; omega
        have hxk := kind_le (Hk.out x hxm)
        have hxl : (bs (laidL x.kind x.text)).size ≤ 1202 := by rw [bs_size]; have := laid_len x; omega
        have hpx0 : px.size ≤ 400000 := by omega
        have hwx0 : wx.size ≤ 400000 := by omega
        have hxp := toks_pos_all Ht.out x hxm
        rw [← Lib.size_eq] at hxp
        have hxpi : (x.pos : Int) < (s.size : Int) := by omega
        have HTK : Hid (l.take (i + 1) = l.take i ++ [x]) := Lib.hid (by rw [List.take_succ_eq_append_getElem hlt, hxa])
        have HPX : Hid (∀ t : ByteArray, t.data.toList = px.data.toList ++ (laidL x.kind x.text ++ [32]) → t.data.toList = plainL (l.take (i + 1))) := Lib.hid (fun t ht => by rw [ht, Hp.out, HTK.out]; simp [plainL])
        have HWX : Hid (∀ (g : List UInt8) (t : ByteArray), t.data.toList = wx.data.toList ++ (g ++ laidL x.kind x.text) → t.data.toList = wideL ((gs ++ [g]).zip (l.take (i + 1)))) := Lib.hid (fun g t ht => by
          have hl : gs.length = (l.take i).length := by rw [List.length_take]; omega
          rw [ht, Hw.out, HTK.out, List.zip_append hl]; simp [wideL])
        have HXA := Lib.hid hxa
        have hd2 : decide ((x.pos : Int) < 0) = false := decide_eq_false (by omega)
        have hd3 : decide (s.size ≤ x.pos) = false := decide_eq_false (by omega)
        clear hxa
        by_cases hn0 : ng = 0
        · subst hn0
          go_wp2_with fail
          refine (Laid_calls x _ (by omega) hxk).mono ?_
          rintro e w4 ⟨rfl, hb4⟩
          have HB4 := Lib.hid (HBr.out.trans (hb4.mono HBr.out.size))
          clear hb4
          have c0 := lift_cell HB4.out a0
          have c1 := lift_cell HB4.out a1
          have c2 := lift_cell HB4.out a2
          go_wp2_with fail
          refine (Laid_calls x _ (by omega) hxk).mono ?_
          rintro e w5 ⟨rfl, hb5⟩
          have HB5 := Lib.hid (HB4.out.trans (hb5.mono HB4.out.size))
          clear hb5 c0 c1 c2 HB4
          have d2 := lift_cell HB5.out a2
          have hbl5 := HB5.out.size
          by_cases hi0 : i = 0
          · have hd : decide (0 < i) = false := decide_eq_false (by omega)
            clear hi0 b0 b1 b2 hbl0
            go_wp2_with fail
            go_quiet (fail)
            go_wp2_with fail
            exact ⟨⟨i + 1, gs ++ [[32]], _, _, rfl, rfl, by go_num, by omega, by simp [hgs], Lib.hid (mem_snoc Hgs.out (by simp [gapsL])), Lib.hid (HPX.out _ (by simp [bs])), Lib.hid (HWX.out [32] _ (by simp [bs])), size_px hpx hxl, size_wx hwx hxl (by decide), Lib.hid (below_drewN HB5.out _)⟩, by simp [intOf]; omega⟩
          · have hd : decide (0 < i) = true := decide_eq_true (by omega)
            obtain ⟨a', ha', _, _, e2⟩ := HL.out (i - 1) (by omega)
            obtain rfl : a = a' := by injection ha'
            have hso := toks_sorted Ht.out (i := i) (by omega) hlt
            obtain ⟨y, hya⟩ : ∃ y, (l[i - 1]'(by omega)) = y := ⟨_, rfl⟩
            rw [hya] at e2 hso
            rw [HXA.out] at hso
            have d3 := lift_cell HB5.out e2
            have hsoi : (y.pos : Int) < (x.pos : Int) := by omega
            have hd4 : decide (x.pos ≤ y.pos) = false := decide_eq_false (by omega)
            have hi1 : (1 : Int) ≤ (i : Int) := by omega
            have hil : (i : Int) - 1 < (l.length : Int) := by omega
            have hw1 : IntKind.i64.wrap ((i : Int) - 1) = (i : Int) - 1 := IntWalk.i64_in _ (by omega)
            have hn1 : ((i : Int) - 1).toNat = i - 1 := by omega
            clear hya hso e2 hi0 b0 b1 b2 hbl0
            go_wp2_with fail
            go_quiet (fail)
            go_wp2_with fail
            exact ⟨⟨i + 1, gs ++ [[32]], _, _, rfl, rfl, by go_num, by omega, by simp [hgs], Lib.hid (mem_snoc Hgs.out (by simp [gapsL])), Lib.hid (HPX.out _ (by simp [bs])), Lib.hid (HWX.out [32] _ (by simp [bs])), size_px hpx hxl, size_wx hwx hxl (by decide), Lib.hid (below_drewN HB5.out _)⟩, by simp [intOf]; omega⟩
        · have hnp : (0 : Int) < (ng : Int) := by omega
          have hmod : i % ng < ng := Nat.mod_lt _ (by omega)
          obtain ⟨ag, hA, hz⟩ := HZ (i % ng) hmod
          obtain ⟨z, hzz⟩ : ∃ z, Z (i % ng) = z := ⟨_, rfl⟩
          rw [hzz] at hz
          have hz := HB3.out.cell (p := ag.add (i % ng)) (by rcases Nat.lt_or_ge (ag.add (i % ng)).block w.heap.size with h1 | h1; exact h1; simp [World.cell?, Array.getElem?_eq_none h1] at hz) |>.trans hz
          have hz := HBr.out.cell (p := ag.add (i % ng)) (by rcases Nat.lt_or_ge (ag.add (i % ng)).block w3.heap.size with h1 | h1; exact h1; simp [World.cell?, Array.getElem?_eq_none h1] at hz) |>.trans hz
          subst hA
          have hbl : (ag.add (i % ng)).block < wr.heap.size := by rcases Nat.lt_or_ge (ag.add (i % ng)).block wr.heap.size with h1 | h1; exact h1; simp [World.cell?, Array.getElem?_eq_none h1] at hz
          have hm0 : (0 : Int) ≤ (i : Int) % (ng : Int) := Int.emod_nonneg _ (by omega)
          have hm1 : (i : Int) % (ng : Int) < (ng : Int) := Int.emod_lt_of_pos _ (by omega)
          obtain ⟨k, hk⟩ : ∃ k : Nat, z.toNat % 5 = k := ⟨_, rfl⟩
          have hk5 : k < 5 := by omega
          have q2 : ((z.toNat : Int)).tmod 5 = (k : Int) := by rw [Int.tmod_eq_emod_of_nonneg (by omega)]; omega
          have hgx : ∀ k, k < 5 → ∃ g, g ∈ gapsL ∧ ∀ h, ([Value.string { data := #[32] }, Value.string { data := #[9, 9] }, Value.string { data := #[13, 10, 32] }, Value.string { data := #[32, 59, 32, 40, 110, 111, 32, 34, 32, 10] }, Value.string { data := #[59, 59, 10] }] : List Value)[k]'h = .string (bs g) := by
            intro k hk
            match k, hk with
            | 0, _ => exact ⟨[32], by simp [gapsL], fun _ => rfl⟩
            | 1, _ => exact ⟨[9, 9], by simp [gapsL], fun _ => rfl⟩
            | 2, _ => exact ⟨[13, 10, 32], by simp [gapsL], fun _ => rfl⟩
            | 3, _ => exact ⟨[32, 59, 32, 40, 110, 111, 32, 34, 32, 10], by simp [gapsL], fun _ => rfl⟩
            | 4, _ => exact ⟨[59, 59, 10], by simp [gapsL], fun _ => rfl⟩
          obtain ⟨g, hgm, hge⟩ := hgx k hk5
          have HGM := Lib.hid hgm
          have hgs10 : (bs g).size ≤ 10 := by
            rw [bs_size]
            simp only [gapsL, List.mem_cons, List.not_mem_nil, or_false] at hgm
            rcases hgm with rfl | rfl | rfl | rfl | rfl <;> decide
          clear hk hmod hzz hgx hgm
          go_wp2_with fail
          refine (Laid_calls x _ (by omega) hxk).mono ?_
          rintro e w4 ⟨rfl, hb4⟩
          have HB4 := Lib.hid ((HBr.out.alloc HBr.out.size (.cells #[.string ⟨#[32]⟩, .string ⟨#[9, 9]⟩, .string ⟨#[13, 10, 32]⟩, .string ⟨#[32, 59, 32, 40, 110, 111, 32, 34, 32, 10]⟩, .string ⟨#[59, 59, 10]⟩] 9)).trans (hb4.mono (HBr.out.alloc HBr.out.size (.cells #[.string ⟨#[32]⟩, .string ⟨#[9, 9]⟩, .string ⟨#[13, 10, 32]⟩, .string ⟨#[32, 59, 32, 40, 110, 111, 32, 34, 32, 10]⟩, .string ⟨#[59, 59, 10]⟩] 9)).size))
          clear hb4
          have c0 := lift_cell HB4.out a0
          have c1 := lift_cell HB4.out a1
          have c2 := lift_cell HB4.out a2
          go_wp2_with fail
          refine (Laid_calls x _ (by omega) hxk).mono ?_
          rintro e w5 ⟨rfl, hb5⟩
          have HB5 := Lib.hid (HB4.out.trans (hb5.mono HB4.out.size))
          clear hb5 c0 c1 c2 HB4
          have d2 := lift_cell HB5.out a2
          have hbl5 := HB5.out.size
          by_cases hi0 : i = 0
          · have hd : decide (0 < i) = false := decide_eq_false (by omega)
            clear hi0 b0 b1 b2 hbl0 hz hbl hm0 hm1 hk5 q2
            go_wp2_with fail
            go_quiet (fail)
            go_wp2_with fail
            exact ⟨⟨i + 1, gs ++ [g], _, _, rfl, rfl, by go_num, by omega, by simp [hgs], Lib.hid (mem_snoc Hgs.out HGM.out), Lib.hid (HPX.out _ (by simp [bs])), Lib.hid (HWX.out g _ (by simp [bs])), size_px hpx hxl, size_wx hwx hxl hgs10, Lib.hid (below_drewN HB5.out _)⟩, by simp [intOf]; omega⟩
          · have hd : decide (0 < i) = true := decide_eq_true (by omega)
            obtain ⟨a', ha', _, _, e2⟩ := HL.out (i - 1) (by omega)
            obtain rfl : a = a' := by injection ha'
            have hso := toks_sorted Ht.out (i := i) (by omega) hlt
            obtain ⟨y, hya⟩ : ∃ y, (l[i - 1]'(by omega)) = y := ⟨_, rfl⟩
            rw [hya] at e2 hso
            rw [HXA.out] at hso
            have d3 := lift_cell HB5.out e2
            have hsoi : (y.pos : Int) < (x.pos : Int) := by omega
            have hd4 : decide (x.pos ≤ y.pos) = false := decide_eq_false (by omega)
            have hi1 : (1 : Int) ≤ (i : Int) := by omega
            have hil : (i : Int) - 1 < (l.length : Int) := by omega
            have hw1 : IntKind.i64.wrap ((i : Int) - 1) = (i : Int) - 1 := IntWalk.i64_in _ (by omega)
            have hn1 : ((i : Int) - 1).toNat = i - 1 := by omega
            clear hya hso e2 hi0 b0 b1 b2 hbl0 hz hbl hm0 hm1 hk5 q2
            go_wp2_with fail
            go_quiet (fail)
            go_wp2_with fail
            exact ⟨⟨i + 1, gs ++ [g], _, _, rfl, rfl, by go_num, by omega, by simp [hgs], Lib.hid (mem_snoc Hgs.out HGM.out), Lib.hid (HPX.out _ (by simp [bs])), Lib.hid (HWX.out g _ (by simp [bs])), size_px hpx hxl, size_wx hwx hxl hgs10, Lib.hid (below_drewN HB5.out _)⟩, by simp [intOf]; omega⟩
      · have hie : i = l.length := by omega
        rw [hie, List.take_length] at Hp Hw
        rw [hie] at hgs
        obtain ⟨ta, hta, hsa⟩ := back_plain Hk.out
        obtain ⟨tb, htb, hsb⟩ := back_wide (xs := gs.zip l) (fun x hx => by
          have := List.of_mem_zip hx
          exact ⟨Hgs.out _ this.1, Hk.out _ this.2⟩)
        have hmap : (gs.zip l).map (·.2) = l := List.map_snd_zip (by omega)
        rw [hmap] at hsb
        have Hta : Hid (toksL px.data.toList = (ta, none)) := Lib.hid (by rw [Hp.out]; exact hta)
        have Htb : Hid (toksL wx.data.toList = (tb, none)) := Lib.hid (by rw [Hw.out]; exact htb)
        have Hsa := Lib.hid hsa
        have Hsb := Lib.hid hsb
        have hl300 : l.length ≤ 300 := by omega
        clear hta htb hsa hsb hmap hie
        have hpx2 : px.size ≤ 1000000 := by omega
        have hwx2 : wx.size ≤ 1000000 := by omega
        have HRl : Hid (RowAt w3 (.slice q l.length cv) l) := Lib.hid ⟨q, cv, rfl, hcv, HL.out⟩
        go_wp2_with fail
        refine (Tokens_any px _ hpx2).mono ?_
        rintro e w4 ⟨va, ea, rfl, HRa, HEa, hb4⟩
        rw [Hta.out] at HRa HEa
        obtain rfl : ea = .nilIface := HEa.out
        have HB4 := Lib.hid (HBr.out.trans (hb4.mono HBr.out.size))
        clear hb4
        go_wp2_with fail
        refine (Tokens_any wx _ hwx2).mono ?_
        rintro e w5 ⟨vb, eb, rfl, HRb, HEb, hb5⟩
        rw [Htb.out] at HRb HEb
        obtain rfl : eb = .nilIface := HEb.out
        have HB5 := Lib.hid (HB4.out.trans (hb5.mono HB4.out.size))
        have HRa5 := Lib.hid (HRa.out.below hb5)
        have HRl5 := Lib.hid (HRl.out.below HB5.out)
        clear hb5
        have hla : ta.length ≤ 1000000 := by
          have := toks_le px.data.toList
          rw [Hta.out, ← Lib.size_eq] at this
          exact Nat.le_trans this hpx2
        have hlb : tb.length ≤ 1000000 := by
          have := toks_le wx.data.toList
          rw [Htb.out, ← Lib.size_eq] at this
          exact Nat.le_trans this hwx2
        go_wp2_with fail
        have hca := Same_calls _ _ _ _ false w5 HRa5.out HRl5.out hla
        rw [Hsa.out] at hca
        refine hca.mono ?_
        rintro e w6 ⟨rfl, hb6⟩
        have HRb6 := Lib.hid (HRb.out.below hb6)
        have HRl6 := Lib.hid (HRl5.out.below hb6)
        have HB6 := Lib.hid (HB5.out.trans (hb6.mono HB5.out.size))
        clear hb6 hca
        go_wp2_with fail
        have hcb := Same_calls _ _ _ _ false w6 HRb6.out HRl6.out hlb
        rw [Hsb.out] at hcb
        refine hcb.mono ?_
        rintro e w7 ⟨rfl, hb7⟩
        go_wp2_with fail
        go_ret
        exact ⟨rfl, HB3.out.trans ((HB6.out.trans (hb7.mono HB6.out.size)).mono HB3.out.size)⟩
end Go.Proofs.YtndejiminaopeaaDoor
