/- lex.cutLeft and lex.run by their contracts: over a set of bytes below 128 a text without its beginning. -/
import Derived.Test.YtndejiminaopeaaDoorProg
import Derived.Test.YtndejiminaopeaaDoorBase
namespace Go.Proofs.YtndejiminaopeaaDoor
open Go.RowKit

/-- A text without the bytes of a set at its beginning. -/
def cutl (s set : ByteArray) : ByteArray := bs (s.data.toList.dropWhile (fun b => set.data.toList.contains b))

theorem cutl_at (s set : ByteArray) (i : Nat) (hi : i < s.size) (hall : ∀ j (h : j < s.size), j < i → set.data.toList.contains (s[j]'h) = true) (hno : set.data.toList.contains (s[i]'hi) = false) : s.extract i s.size = cutl s set := by
  rw [extract_bs]
  unfold cutl
  congr 1
  have hlen : s.data.toList.length = s.size := (Lib.size_eq s).symm
  rw [List.take_of_length_le (by rw [List.length_drop]; omega)]
  have key : ∀ (l : List UInt8) (p : UInt8 → Bool) (i : Nat) (hi : i < l.length), (∀ j (h : j < l.length), j < i → p l[j] = true) → p l[i] = false → l.dropWhile p = l.drop i := by
    intro l p i
    induction i generalizing l with
    | zero =>
      intro hi _ h0
      cases l with
      | nil => simp at hi
      | cons a l => simp at h0; simp [List.dropWhile_cons, h0]
    | succ i ih =>
      intro hi ha h0
      cases l with
      | nil => simp at hi
      | cons a l =>
        have h1 := ha 0 (by simp) (by omega)
        simp at h1
        simp only [List.dropWhile_cons, h1, if_true, List.drop_succ_cons]
        exact ih l (by simpa using hi) (fun j h hj => by have := ha (j + 1) (by simpa using h) (by omega); simpa using this) (by simpa using h0)
  exact (key s.data.toList _ i (by omega) (fun j h hj => hall j (by omega) hj) hno).symm
theorem cutl_all (s set : ByteArray) (hall : ∀ j (h : j < s.size), set.data.toList.contains (s[j]'h) = true) : cutl s set = bs [] := by
  unfold cutl
  congr 1
  have key : ∀ (l : List UInt8) (p : UInt8 → Bool), (∀ x ∈ l, p x = true) → l.dropWhile p = [] := by
    intro l p h
    induction l with
    | nil => rfl
    | cons a l ih => simp only [List.dropWhile_cons, h a (by simp), if_true]; exact ih fun x hx => h x (by simp [hx])
  refine key _ _ fun x hx => ?_
  obtain ⟨j, hj, rfl⟩ := List.getElem_of_mem hx
  exact hall j (by rw [Lib.size_eq]; exact hj)

/-- Is a rune one of the first k of a set's bytes? -/
def inTo (set : ByteArray) (c : Int) (k : Nat) : Bool := (set.data.toList.take k).any (fun b => decide (c = (b.toNat : Int)))
theorem inTo_zero (set : ByteArray) (c : Int) : inTo set c 0 = false := by simp [inTo]
theorem inTo_succ (set : ByteArray) (c : Int) (k : Nat) (h : k < set.size) : inTo set c (k + 1) = (inTo set c k || decide (c = ((set[k]'h).toNat : Int))) := by
  unfold inTo
  have : set.data.toList.take (k + 1) = set.data.toList.take k ++ [set[k]'h] := by
    rw [List.take_succ_eq_append_getElem (by rw [← Lib.size_eq]; exact h)]; rfl
  rw [this, List.any_append]; simp
theorem inTo_low (set : ByteArray) (b : UInt8) : inTo set (b.toNat : Int) set.size = set.data.toList.contains b := by
  unfold inTo
  rw [List.take_of_length_le (by rw [Lib.size_eq]; exact Nat.le_refl _)]
  rw [Bool.eq_iff_iff]
  simp only [List.any_eq_true, decide_eq_true_eq, List.contains_iff_mem]
  constructor
  · rintro ⟨x, hx, e⟩
    have : b = x := UInt8.toNat_inj.1 (by omega)
    rw [this]; exact hx
  · intro h; exact ⟨b, h, rfl⟩
theorem inTo_high (set : ByteArray) (c : Int) (hset : ∀ b ∈ set.data.toList, b.toNat < 128) (hc : 128 ≤ c) (k : Nat) : inTo set c k = false := by
  unfold inTo
  rw [List.any_eq_false]
  intro x hx
  have := hset x (List.mem_of_mem_take hx)
  simp; omega

set_option maxHeartbeats 1000000 in
theorem cutLeft_calls (s set : ByteArray) (w : World) (hs : s.size ≤ 9223372036854775807) (hset : ∀ b ∈ set.data.toList, b.toNat < 128) :
    Calls Tryd.prog 52 #[.string s, .string set] w fun e w' => e = .returned (.string (cutl s set)) ∧ Below w.heap.size w w' := by
  go_enter Tryd.func52, Tryd.ntmps52
  go_wp2
  go_loopw [5] (fun _ wr => ∃ pos : Nat, wr.heap[w.heap.size]? = some (.stringIter s pos) ∧ pos ≤ s.size ∧ Below w.heap.size w wr ∧ Hid (∀ j (h : j < s.size), j < pos → set.data.toList.contains (s[j]'h) = true)) (fun _ wr => s.size - itAt wr w.heap.size)
  case atStart => exact ⟨0, w.iter_heap s 0, Nat.zero_le _, (Below.refl _ w).alloc (Nat.le_refl _) _, Lib.hid fun j h hj => absurd hj (Nat.not_lt_zero _)⟩
  case round =>
    obtain ⟨pos, hit, hpos, hB, hall⟩ := hrel
    obtain ⟨wo, rfl⟩ : ∃ wo, wo = wr := ⟨wr, rfl⟩
    by_cases hp : pos < s.size
    · have hnx : ∀ ty, (Instr.next (.pointer (some ⟨w.heap.size, 0, none⟩)) true ty).run Tryd.prog wo = _ := fun ty => run_next_any' ty hit hp
      have hdec := decode_high s pos hp
      have hdecl := decode_ascii s pos hp
      have hw1 : 1 ≤ (Utf8.decode s pos).2 := by
        by_cases ha : (s[pos]'hp).toNat < 128
        · rw [hdecl ha]; exact Nat.le_refl _
        · exact (hdec (by omega)).2
      have Hlow : Hid ((s[pos]'hp).toNat < 128 → (Utf8.decode s pos) = ((s[pos]'hp).toNat, 1)) := Lib.hid hdecl
      have Hhigh : Hid (128 ≤ (s[pos]'hp).toNat → 128 ≤ (Utf8.decode s pos).1) := Lib.hid fun h => (hdec h).1
      clear hdec hdecl
      have hsz1 := lt_of_heap hit
      have Hit1 : Hid ((wo.putObj w.heap.size (.stringIter s (pos + (Utf8.decode s pos).2))).heap[w.heap.size]? = some (.stringIter s (pos + (Utf8.decode s pos).2))) := Lib.hid (World.putObj_heap_same hsz1)
      have hB1 : Below w.heap.size w (wo.putObj w.heap.size (.stringIter s (pos + (Utf8.decode s pos).2))) := below_putObj hB (Nat.le_refl _) _
      go_wp2
      have hit2 := World.iter_heap (wo.putObj w.heap.size (.stringIter s (pos + (Utf8.decode s pos).2))) set 0
      have hext : Below wo.heap.size (wo.putObj w.heap.size (.stringIter s (pos + (Utf8.decode s pos).2))) ((wo.putObj w.heap.size (.stringIter s (pos + (Utf8.decode s pos).2))).iter set 0) := (Below.refl _ _).alloc (by simp) _
      rw [World.putObj_size] at hit2
      generalize hW1 : wo.putObj w.heap.size (.stringIter s (pos + (Utf8.decode s pos).2)) = W1 at *
      generalize hW2 : W1.iter set 0 = W2 at *
      clear hW2 hW1
      generalize hc : ((Utf8.decode s pos).1 : Int) = c at *
      go_loopw [7] (fun v7 w3 => ∃ k : Nat, v7 = .bool (inTo set c k) ∧ w3.heap[wo.heap.size]? = some (.stringIter set k) ∧ k ≤ set.size ∧ Below wo.heap.size W1 w3) (fun _ w3 => set.size - itAt w3 wo.heap.size)
      case atStart => exact ⟨0, by rw [inTo_zero], hit2, Nat.zero_le _, hext⟩
      case round =>
        obtain ⟨k, rfl, hit3, hk, hB3⟩ := hrel
        by_cases hk2 : k < set.size
        · have hlow : (set[k]'hk2).toNat < 128 := hset _ (by show set.data[k] ∈ _; simp)
          have hnx : ∀ ty, (Instr.next (.pointer (some ⟨wo.heap.size, 0, none⟩)) true ty).run Tryd.prog wr = _ := fun ty => run_next_low ty hit3 hk2 hlow
          have Hs : Hid (inTo set c (k + 1) = (inTo set c k || decide (c = ((set[k]'hk2).toNat : Int)))) := Lib.hid (inTo_succ set c k hk2)
          cases hin : inTo set c k
          all_goals
            have Hin := Lib.hid hin
            clear hin
            go_wp2
            go_roundw
            case rel => 
              refine ⟨k + 1, ?_, World.putObj_heap_same (lt_of_heap hit3), by omega, below_putObj hB3 (Nat.le_refl _) _⟩
              rw [Hs.out, Hin.out]; first | rfl | simp
            case measure => rw [itAt_of hit3, itAt_of (World.putObj_heap_same (lt_of_heap hit3))]; omega
        · have hnx : ∀ ty, (Instr.next (.pointer (some ⟨wo.heap.size, 0, none⟩)) true ty).run Tryd.prog wr = _ := fun ty => run_next_over ty hit3 hk2
          have hkk : k = set.size := by omega
          subst hkk
          have hhead : ∀ (h : (s[pos]'hp).toNat < 128), inTo set c set.size = set.data.toList.contains (s[pos]'hp) := fun h => by
            rw [← hc, Hlow.out h]; exact inTo_low set _
          have htail : 128 ≤ (s[pos]'hp).toNat → inTo set c set.size = false := fun h => inTo_high set c hset (by rw [← hc]; have := Hhigh.out h; omega) _
          cases hin : inTo set c set.size
          · have hno : Hid (set.data.toList.contains (s[pos]'hp) = false) := by
              by_cases h : (s[pos]'hp).toNat < 128
              · rw [hhead h] at hin; exact hin
              · refine Bool.eq_false_iff.2 fun hm => ?_
                have := hset _ (List.contains_iff_mem.1 hm); omega
            clear hin hhead htail
            go_wp2
            go_ret
            refine ⟨?_, hB1.trans (hB3.mono (by omega))⟩
            rw [cutl_at s set pos hp hall.out hno.out]; rfl
          · have hlt : (s[pos]'hp).toNat < 128 := by
              rcases Nat.lt_or_ge (s[pos]'hp).toNat 128 with h | h
              · exact h
              · rw [htail h] at hin; cases hin
            have hyes : Hid (set.data.toList.contains (s[pos]'hp) = true) := by rw [hhead hlt] at hin; exact hin
            clear hin hhead htail
            go_wp2
            go_roundw
            case rel =>
              refine ⟨pos + 1, ?_, by omega, hB1.trans (hB3.mono (by omega)), Lib.hid fun j h hj => ?_⟩
              · have := Hit1.out
                rw [Hlow.out hlt] at this
                exact below_heap hB3 hsz1 this
              · rcases Nat.lt_or_ge j pos with h1 | h1
                · exact hall.out j h h1
                · obtain rfl : j = pos := by omega
                  exact hyes.out
            case measure =>
              have := Hit1.out
              rw [Hlow.out hlt] at this
              rw [itAt_of hit, itAt_of (below_heap hB3 hsz1 this)]; omega
    · have hnx : ∀ ty, (Instr.next (.pointer (some ⟨w.heap.size, 0, none⟩)) true ty).run Tryd.prog wo = _ := fun ty => run_next_over ty hit hp
      go_wp2
      go_ret
      refine ⟨?_, hB⟩
      rw [cutl_all s set fun j h => hall.out j h (by omega)]
      rfl

/-- How many bytes at the beginning are of some. -/
def runl (s set : ByteArray) : Nat := (s.data.toList.takeWhile (fun b => set.data.toList.contains b)).length
theorem runl_le (s set : ByteArray) : runl s set ≤ s.size := by
  rw [Lib.size_eq]; unfold runl
  have := List.takeWhile_append_dropWhile (p := fun b => set.data.toList.contains b) (l := s.data.toList)
  have h2 := congrArg List.length this
  rw [List.length_append] at h2
  omega
theorem cutl_size (s set : ByteArray) : (cutl s set).size + runl s set = s.size := by
  rw [Lib.size_eq s]; unfold runl cutl
  rw [bs_size]
  have := List.takeWhile_append_dropWhile (p := fun b => set.data.toList.contains b) (l := s.data.toList)
  have h2 := congrArg List.length this
  rw [List.length_append] at h2
  omega

theorem run_calls (s set : ByteArray) (w : World) (hs : s.size ≤ 9223372036854775807) (hset : ∀ b ∈ set.data.toList, b.toNat < 128) :
    Calls Tryd.prog 32 #[.string s, .string set] w fun e w' => e = .returned (.int .i64 (runl s set : Nat)) ∧ Below w.heap.size w w' := by
  have h1 := cutl_size s set
  go_enter Tryd.func32, Tryd.ntmps32
  go_wp2_with (go_at_call 52; refine (cutLeft_calls _ _ _ hs hset).mono ?_; rintro e w1 ⟨rfl, hb1⟩)
  go_ret
  refine ⟨?_, hb1⟩
  exact ret_int (by omega)
end Go.Proofs.YtndejiminaopeaaDoor
