/- LexWords: the walk. -/
import Derived.Test.YtndejiminaopeaaDoorQuotes
import Derived.Test.YtndejiminaopeaaDoorRef2
import Derived.Test.YtndejiminaopeaaDoorRefQ
namespace Go.Proofs.YtndejiminaopeaaDoor
open Go.RowKit

theorem name_some (u : ByteArray) (w : World) (hu : u.size ≤ 61) (b : Bool) (hb : nameB u.data.toList = b) :
    Calls Tryd.prog 18 #[.string u] w fun e w' => e = .returned (.bool b) ∧ Below w.heap.size w w' := by
  have := Name_calls u w (by omega)
  rw [hb] at this; exact this
theorem number_some (u : ByteArray) (w : World) (hu : u.size ≤ 61) (b : Bool) (hb : numB u.data.toList = b) :
    Calls Tryd.prog 19 #[.string u] w fun e w' => e = .returned (.bool b) ∧ Below w.heap.size w w' := by
  have := Number_calls u w (by omega)
  rw [hb] at this; exact this
theorem refname_some (u : ByteArray) (w : World) (hu : u.size ≤ 61) (b : Bool) (hb : nameB u.data.toList = b) :
    Calls Tryd.prog 23 #[.string u] w fun e w' => e = .returned (.bool b) ∧ w = w' := by
  have := RefName_calls u w (by omega)
  rw [hb] at this; exact this
theorem refnumber_some (u : ByteArray) (w : World) (hu : u.size ≤ 61) (b : Bool) (hb : numB u.data.toList = b) :
    Calls Tryd.prog 24 #[.string u] w fun e w' => e = .returned (.bool b) ∧ w = w' := by
  have := RefNumber_calls u w (by omega)
  rw [hb] at this; exact this
theorem quote_some (u q : ByteArray) (w : World) (hu : u.size ≤ 61) (hq : bs (quoteL u.data.toList) = q) :
    Calls Tryd.prog 22 #[.string u] w fun e w' => e = .returned (.string q) ∧ Below w.heap.size w w' := by
  have := Quote_calls u w (by omega)
  rw [hq] at this; exact this
theorem refquote_some (u q : ByteArray) (w : World) (hu : u.size ≤ 61) (hq : bs (quoteL u.data.toList) = q) :
    Calls Tryd.prog 25 #[.string u] w fun e w' => e = .returned (.string q) ∧ Below w.heap.size w w' := by
  have := RefQuote_calls u w (by omega)
  rw [hq] at this; exact this
theorem four_at (a b c d : ByteArray) (ha : a.size ≤ 60) (hb : b.size ≤ 60) (hc : c.size ≤ 61) (hd : d.size ≤ 61) (i : Nat) (hi : i < 4) :
    ∃ u : ByteArray, u.size ≤ 61 ∧ ∀ w, (Instr.index 51 (.agg #[.string a, .string b, .string c, .string d]) (.int .i64 (i : Int))).run Tryd.prog w = .ok (.string u) w := by
  match i, hi with
  | 0, _ => exact ⟨a, by omega, fun _ => by kernel_rfl⟩
  | 1, _ => exact ⟨b, by omega, fun _ => by kernel_rfl⟩
  | 2, _ => exact ⟨c, by omega, fun _ => by kernel_rfl⟩
  | 3, _ => exact ⟨d, by omega, fun _ => by kernel_rfl⟩

set_option maxRecDepth 100000 in
set_option maxHeartbeats 4000000 in
theorem LexWords_calls (s0 t0 : ByteArray) (w : World) (hg : Laid0 w) (hs0 : s0.size ≤ 9223372036854775807) (ht0 : t0.size ≤ 9223372036854775807) :
    Calls Tryd.prog 8 #[.string s0, .string t0] w fun e w' => e = .returned (.bool true) ∧ Below w.heap.size w w' := by
  go_enter Tryd.func8, Tryd.ntmps8
  go_wp2_with fail
  refine (few_calls _ 60 _ hs0 (by decide)).mono ?_
  rintro e w1 ⟨s, rfl, _, hs, hb1⟩
  have hg1 := Lib.hid (hg.below hb1)
  have HB1 := Lib.hid hb1
  clear hb1
  go_wp2_with fail
  refine (few_calls _ 60 _ ht0 (by decide)).mono ?_
  rintro e w2 ⟨t, rfl, _, ht, hb2⟩
  have hg2 := Lib.hid (hg1.out.below hb2)
  have HB2 := Lib.hid (HB1.out.trans (hb2.mono HB1.out.size))
  clear hb2 HB1 hg1
  go_wp2_with fail
  have h3 : ((⟨#[45]⟩ : ByteArray) ++ s).size ≤ 61 := by
    rw [ByteArray.size_append]
    have : (⟨#[45]⟩ : ByteArray).size = 1 := rfl
    omega
  have h4 : (s ++ (⟨#[63]⟩ : ByteArray)).size ≤ 61 := by
    rw [ByteArray.size_append]
    have : (⟨#[63]⟩ : ByteArray).size = 1 := rfl
    omega
  have H4 := Lib.hid (four_at s t (⟨#[45]⟩ ++ s) (s ++ ⟨#[63]⟩) hs ht h3 h4)
  clear h3 h4
  generalize (⟨#[45]⟩ : ByteArray) ++ s = s3 at *
  generalize s ++ (⟨#[63]⟩ : ByteArray) = s4 at *
  go_loopw [18] (fun v18 wr => ∃ i : Nat, v18 = .int .i64 (i : Int) ∧ i ≤ 4 ∧ Hid (Laid0 wr) ∧ Hid (Below w.heap.size w wr)) (fun v18 _ => 4 - (intOf v18).toNat)
  case atStart => exact ⟨0, rfl, by omega, hg2, HB2⟩
  case round =>
    obtain ⟨i, rfl, hi, hgr, HBr⟩ := hrel
    by_cases hlt : i < 4
    · have hlti : (i : Int) < 4 := by omega
      obtain ⟨u, hu, hx⟩ := H4.out i hlt
      obtain ⟨b, hb⟩ : ∃ b, nameB u.data.toList = b := ⟨_, rfl⟩
      obtain ⟨c, hc⟩ : ∃ c, numB u.data.toList = c := ⟨_, rfl⟩
      obtain ⟨q, hq⟩ : ∃ q, bs (quoteL u.data.toList) = q := ⟨_, rfl⟩
      have Hb := Lib.hid hb
      have Hc := Lib.hid hc
      have Hq := Lib.hid hq
      clear hb hc hq
      have kb : (b != b) = false := by cases b <;> rfl
      have kc : (c != c) = false := by cases c <;> rfl
      go_wp2_with fail
      refine (name_some u _ hu b Hb.out).mono ?_
      rintro e w3 ⟨rfl, hb3⟩
      have hg3 := Lib.hid (hgr.out.below hb3)
      have HB3 := Lib.hid (HBr.out.trans (hb3.mono HBr.out.size))
      clear hb3
      go_wp2_with fail
      refine (refname_some u _ hu b Hb.out).mono ?_
      rintro e w3' ⟨rfl, rfl⟩
      go_wp2_with fail
      refine (number_some u _ hu c Hc.out).mono ?_
      rintro e w4 ⟨rfl, hb4⟩
      have hg4 := Lib.hid (hg3.out.below hb4)
      have HB4 := Lib.hid (HB3.out.trans (hb4.mono HB3.out.size))
      clear hb4 hg3 HB3
      go_wp2_with fail
      refine (refnumber_some u _ hu c Hc.out).mono ?_
      rintro e w4' ⟨rfl, rfl⟩
      go_wp2_with fail
      refine (quote_some u q _ hu Hq.out).mono ?_
      rintro e w5 ⟨rfl, hb5⟩
      have hg5 := Lib.hid (hg4.out.below hb5)
      have HB5 := Lib.hid (HB4.out.trans (hb5.mono HB4.out.size))
      clear hb5 hg4 HB4
      go_wp2_with fail
      refine (refquote_some u q _ hu Hq.out).mono ?_
      rintro e w6 ⟨rfl, hb6⟩
      have hg6 := Lib.hid (hg5.out.below hb6)
      have HB6 := Lib.hid (HB5.out.trans (hb6.mono HB5.out.size))
      clear hb6 hg5 HB5
      go_wp2_with fail
      exact ⟨⟨i + 1, by go_num, by omega, hg6, HB6⟩, by simp [intOf]; omega⟩
    · have hge : (4 : Int) ≤ (i : Int) := by omega
      go_wp2_with fail
      refine (works_calls _ hgr.out).mono ?_
      rintro e w3 ⟨rfl, hb3⟩
      go_wp2_with fail
      go_ret
      exact ⟨rfl, HBr.out.trans (hb3.mono HBr.out.size)⟩
end Go.Proofs.YtndejiminaopeaaDoor
