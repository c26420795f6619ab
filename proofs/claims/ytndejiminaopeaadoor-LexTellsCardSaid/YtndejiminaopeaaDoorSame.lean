/- litmusref05.Same by its contract. -/
import Derived.Test.YtndejiminaopeaaDoorTold
namespace Go.Proofs.YtndejiminaopeaaDoor
open Go.RowKit

/-- A slice of tokens as it lies. -/
def RowAt (w : World) (v : Value) (l : List Tk) : Prop := ∃ (A : Option Addr) (c : Nat), v = .slice A l.length c ∧ l.length ≤ c ∧ ∀ i, ∀ h : i < l.length, ∃ a, A = some a ∧
  w.cell? (a.add (i * 3)) = some (.int .i64 ((l[i]'h).kind : Int)) ∧ w.cell? ⟨(a.add (i * 3)).block, (a.add (i * 3)).off + 1, none⟩ = some (.string (bs (l[i]'h).text)) ∧ w.cell? ⟨(a.add (i * 3)).block, (a.add (i * 3)).off + 2, none⟩ = some (.int .i64 ((l[i]'h).pos : Int))
def sameT (pos : Bool) (a b : Tk) : Bool := decide (a.kind = b.kind) && decide (a.text = b.text) && (!pos || decide (a.pos = b.pos))
def sameL (pos : Bool) (a b : List Tk) : Bool := decide (a.length = b.length) && (a.zip b).all (fun p => sameT pos p.1 p.2)

theorem bs_inj {a b : List UInt8} (h : bs a = bs b) : a = b := by
  have := congrArg (fun x : ByteArray => x.data.toList) h
  simpa [bs] using this
theorem sameT_step {pos : Bool} {la lb : List Tk} {i : Nat} (h1 : i < la.length) (h2 : i < lb.length) (h : sameT pos la[i] lb[i] = true) (hi : ((la.take i).zip (lb.take i)).all (fun p => sameT pos p.1 p.2) = true) :
    ((la.take (i + 1)).zip (lb.take (i + 1))).all (fun p => sameT pos p.1 p.2) = true := by
  rw [List.take_succ_eq_append_getElem h1, List.take_succ_eq_append_getElem h2, List.zip_append (by rw [List.length_take, List.length_take]; omega), List.all_append, hi]
  simpa using h
theorem sameT_miss {pos : Bool} {la lb : List Tk} {i : Nat} (h1 : i < la.length) (h2 : i < lb.length) (h : sameT pos la[i] lb[i] = false) : sameL pos la lb = false := by
  unfold sameL
  have : (la.zip lb).all (fun p => sameT pos p.1 p.2) = false := by
    rw [List.all_eq_false]
    exact ⟨(la[i], lb[i]), List.mem_iff_getElem.2 ⟨i, by rw [List.length_zip]; omega, List.getElem_zip⟩, by simp [h]⟩
  rw [this, Bool.and_false]

set_option maxHeartbeats 2000000 in
theorem Same_calls (va vb : Value) (la lb : List Tk) (pos : Bool) (w : World) (ha : RowAt w va la) (hb : RowAt w vb lb) (hl : la.length ≤ 1000000) :
    Calls Tryd.prog 14 #[va, vb, .bool pos] w fun e w' => e = .returned (.bool (sameL pos la lb)) ∧ Below w.heap.size w w' := by
  obtain ⟨A, c, rfl, hc, HA⟩ := ha
  obtain ⟨B, d, rfl, hd, HB⟩ := hb
  go_enter Tryd.func14, Tryd.ntmps14
  by_cases hlen : la.length = lb.length
  · go_wp2_with fail
    go_loopw [7] (fun v7 wr => ∃ i : Nat, v7 = .int .i64 (i : Int) ∧ i ≤ la.length ∧ Hid (((la.take i).zip (lb.take i)).all (fun p => sameT pos p.1 p.2) = true) ∧ Below w.heap.size w wr) (fun v7 _ => la.length - (intOf v7).toNat)
    case atStart => exact ⟨0, rfl, by omega, Lib.hid rfl, Below.refl _ _⟩
    case round =>
      obtain ⟨i, rfl, hi, Hi, hbw⟩ := hrel
      by_cases hlt : i < la.length
      · have hlti : (i : Int) < la.length := by omega
        have hlti2 : (i : Int) < lb.length := by omega
        have hlt2 : i < lb.length := by omega
        obtain ⟨a, rfl, a0, a1, a2⟩ := HA i hlt
        obtain ⟨b, rfl, b0, b1, b2⟩ := HB i hlt2
        have low : ∀ {p : Addr} {v : Value}, w.cell? p = some v → wr.cell? p = some v := fun {p v} h => (hbw.cell (p := p) (by rcases Nat.lt_or_ge p.block w.heap.size with h1 | h1; exact h1; simp [World.cell?, Array.getElem?_eq_none h1] at h)).trans h
        have a0 := low a0
        have a1 := low a1
        have a2 := low a2
        have b0 := low b0
        have b1 := low b1
        have b2 := low b2
        clear low
        generalize hxa : la[i] = x at *
        generalize hxb : lb[i] = y at *
        have Hs : Hid (sameT pos x y = true → ((la.take (i + 1)).zip (lb.take (i + 1))).all (fun p => sameT pos p.1 p.2) = true) := Lib.hid (fun hxy => sameT_step hlt hlt2 (by rw [hxa, hxb]; exact hxy) Hi.out)
        have Hf : Hid (sameT pos x y = false → sameL pos la lb = false) := Lib.hid (fun hxy => sameT_miss hlt hlt2 (by rw [hxa, hxb]; exact hxy))
        by_cases ek : x.kind = y.kind
        · have k1 : ((x.kind : Int) != (y.kind : Int)) = false := by simp [ek]
          by_cases et : x.text = y.text
          · have q1 : ((bs x.text).toList == (bs y.text).toList) = true := by simp [et]
            cases pos
            · have ET := et
              clear et
              go_wp2_with fail
              go_quiet (fail)
              go_wp2_with fail
              exact ⟨⟨i + 1, by go_num, by omega, Lib.hid (Hs.out (by simp [sameT, ek, ET])), below_drewN hbw _⟩, by simp [intOf]; omega⟩
            · by_cases ep : x.pos = y.pos
              · have k3 : ((x.pos : Int) != (y.pos : Int)) = false := by simp [ep]
                have ET := Lib.hid et
                have EK := Lib.hid ek
                have EP := Lib.hid ep
                clear et ek ep
                go_wp2_with fail
                go_quiet (fail)
                go_wp2_with fail
                exact ⟨⟨i + 1, by go_num, by omega, Lib.hid (Hs.out (by simp [sameT, EK.out, ET.out, EP.out])), below_drewN hbw _⟩, by simp [intOf]; omega⟩
              · have ep2 : ¬ (x.pos : Int) = (y.pos : Int) := by omega
                have k3 : ((x.pos : Int) != (y.pos : Int)) = true := by simpa using ep2
                clear ep2
                have EP := Lib.hid ep
                clear et ek ep
                go_wp2_with fail
                go_quiet (fail)
                go_wp2_with fail
                go_ret
                exact ⟨ret_bool (Hf.out (by simp [sameT, EP.out])).symm, below_drewN hbw _⟩
          · have q1 : ((bs x.text).toList == (bs y.text).toList) = false := by rw [beq_eq_false_iff_ne]; simp only [tl_data]; exact et
            have ET := Lib.hid et
            clear et ek
            go_wp2_with fail
            go_quiet (fail)
            go_wp2_with fail
            go_ret
            exact ⟨ret_bool (Hf.out (by simp [sameT, ET.out])).symm, below_drewN hbw _⟩
        · have k1 : ((x.kind : Int) != (y.kind : Int)) = true := by simp; omega
          have EK := Lib.hid ek
          clear ek
          go_wp2_with fail
          go_quiet (fail)
          go_wp2_with fail
          go_ret
          exact ⟨ret_bool (Hf.out (by simp [sameT, EK.out])).symm, below_drewN hbw _⟩
      · go_wp2_with fail
        go_ret
        refine ⟨ret_bool ?_, hbw⟩
        have hie : i = la.length := by omega
        have h1 := Hi.out
        rw [hie, List.take_length, hlen, List.take_length] at h1
        unfold sameL
        rw [h1, hlen]; simp
  · have hle : ((la.length : Int) != (lb.length : Int)) = true := by simp; omega
    have HLe := Lib.hid hlen
    clear hlen
    go_wp2_with fail
    go_ret
    exact ⟨ret_bool (by simp [sameL, HLe.out]), Below.refl _ _⟩
end Go.Proofs.YtndejiminaopeaaDoor
