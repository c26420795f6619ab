/- lex.Tokens by its contract. -/
import Derived.Test.YtndejiminaopeaaDoorIter
import Derived.RangeFuncBox
import Derived.Laws.NewBlocks
import Derived.TacticsInMore
import Derived.Shelf.RegionOpen
namespace Go.Proofs.YtndejiminaopeaaDoor
open Go.RowKit Go.Shelf
attribute [local go_sem] Oper.semAt_some

theorem infoT : (Tryd.prog.info? 43).map (fun i => (i.zero, i.size, i.bytes)) = some (some (.agg #[.int .i64 0, .string ⟨#[]⟩, .int .i64 0]), 3, 32) := by kernel_rfl

/-- The cells of a token. -/
def tkV (t : Tk) : List Value := [.int .i64 (t.kind : Int), .string (bs t.text), .int .i64 (t.pos : Int)]
def tksV (l : List Tk) : List Value := (l.map tkV).flatten
theorem tksV_snoc (l : List Tk) (t : Tk) : tksV (l ++ [t]) = tksV l ++ tkV t := by simp [tksV]

/-- Between two rounds: what has been gathered; no error yet. -/
def TInv (s : ByteArray) (n0 : Nat) (w : World) (pre : List Item) (W : World) : Prop :=
  (∃ v, W.heap[n0]? = some (.cells #[v] 26 (0, 0)) ∧ W.ownsRow n0 43 3 v pre.length (tksV (pre.map tkOf))) ∧ W.heap[n0 + 1]? = some (.cells #[.nilIface] 28 (0, 0)) ∧ (∀ x ∈ pre, x.n ≠ 0) ∧ Below n0 w W ∧ n0 + 3 ≤ W.heap.size ∧ W.heap[n0 + 2]? = some (.cells #[.string s] 9 (0, 0))
/-- The error that lex.Tokens makes: a trouble round a fault at a place. -/
def FaultAt (W : World) (v : Value) (lo : Nat) (code pos : Int) : Prop := ∃ eb, v = .iface 57 (.agg #[.pointer (some ⟨eb, 0, none⟩)]) ∧ lo ≤ eb ∧ W.heap[eb]? = some (.cells #[.int .i64 code, .int .i64 pos] 33 (0, 0))
def TStop (n0 : Nat) (w : World) (c : Code) (pre : List Item) (W : World) : Prop :=
  c = .ret ∧ (∃ p x, pre = p ++ [x] ∧ x.n = 0 ∧ (∀ y ∈ p, y.n ≠ 0) ∧ W.heap[n0]? = some (.cells #[.slice none 0 0] 26 (0, 0)) ∧ ∃ v, W.heap[n0 + 1]? = some (.cells #[v] 28 (0, 0)) ∧ FaultAt W v (n0 + 3) 4 (x.pos : Int)) ∧ Below n0 w W ∧ n0 + 3 ≤ W.heap.size
theorem TInv_abide (s : ByteArray) (n0 : Nat) (w : World) (pre : List Item) : Abide (n0 + 3) (TInv s n0 w pre) := by
  rintro A B row ⟨⟨v, hv, ho⟩, he, hg, hb, hsz, h2⟩ hgr hr
  exact ⟨⟨v, Abide.block (n0 + 3) n0 _ _ _ A B row hv hgr hr, Abide.owns (n0 + 3) n0 _ _ v _ _ A B row ho hgr hr⟩, Abide.block (n0 + 3) (n0 + 1) _ _ _ A B row he hgr hr, hg,
    hb.grown hgr (by omega) (fun k e => by have := (hr k e).1; omega), Nat.le_trans hsz hgr.size, Abide.block (n0 + 3) (n0 + 2) _ _ _ A B row h2 hgr hr⟩
theorem TStop_abide (n0 : Nat) (w : World) (c : Code) (pre : List Item) : Abide (n0 + 3) (TStop n0 w c pre) := by
  rintro A B row ⟨hc, ⟨p, x, hp, hx, hy, h0, v, h1, eb, hv, hlo, heb⟩, hb, hsz⟩ hgr hr
  exact ⟨hc, ⟨p, x, hp, hx, hy, Abide.block (n0 + 3) n0 _ _ _ A B row h0 hgr hr, v, Abide.block (n0 + 3) (n0 + 1) _ _ _ A B row h1 hgr hr, eb, hv, hlo, Abide.block (n0 + 3) eb _ _ _ A B row heb hgr hr⟩,
    hb.grown hgr (by omega) (fun k e => by have := (hr k e).1; omega), Nat.le_trans hsz hgr.size⟩
theorem cells_new {W : World} {l : List Value} {T : TypeId} {j : Nat} {u : Value} (h : l[j]? = some u) : (W.alloc (.cells l.toArray T)).cell? (Addr.add ⟨W.heap.size, 0, none⟩ j) = some u := by
  have e : (Addr.add ⟨W.heap.size, 0, none⟩ j) = (⟨W.heap.size, j, none⟩ : Addr) := by by_cases h0 : j = 0 <;> simp [Addr.add, h0]
  rw [e, cell_of (heap_new W _ _ rfl)]
  simpa using h
/-- Another box, behind the append and the store. -/
theorem box_after {W w1 : World} {n0 B B2 : Nat} {t e : TypeId} {u v x : Value} {size k : Nat} {xs : List Value} {tmp : Obj} (hB : Boxed W B t u) (hte : t ≠ e) (ho : W.ownsRow n0 e size v k xs) (hgrow : (W.alloc tmp).grownBy w1 v.ownBlock) (hne : B ≠ B2) :
    (w1.setCell ⟨B2, 0, none⟩ x).heap[B]? = some (.cells #[u] t (0, 0)) :=
  (heap_set_ne hne _ _).trans ((hB.alloc tmp).kept hgrow (hB.not_row hte ho))

theorem toks_all {l : List UInt8} (h : ∀ x ∈ items l, x.n ≠ 0) : toksL l = ((items l).map tkOf, none) := by
  unfold toksL
  rw [List.find?_eq_none.2 (fun x hx => by simp [goodI, h x hx])]
theorem toks_stop {l : List UInt8} {p : List Item} {x : Item} (hp : p ++ [x] <+: items l) (hx : x.n = 0) (hy : ∀ y ∈ p, y.n ≠ 0) : toksL l = ([], some x.pos) := by
  obtain ⟨r, hr⟩ := hp
  unfold toksL
  have : (items l).find? (fun x => !goodI x) = some x := by
    rw [← hr, List.append_assoc, List.find?_append, List.find?_eq_none.2 (fun y h => by simp [goodI, hy y h])]
    simp [goodI, hx]
  rw [this]
/-- What lex.Tokens hands back. -/
def TokensPost (s : ByteArray) (w : World) (e : Ending) (w' : World) : Prop :=
  ∃ v ev, e = .returned (.tuple #[v, ev]) ∧ w'.ownsRow w.heap.size 43 3 v (toksL s.data.toList).1.length (tksV (toksL s.data.toList).1) ∧
    (match (toksL s.data.toList).2 with | none => ev = .nilIface | some p => v = .slice none 0 0 ∧ FaultAt w' ev w.heap.size 4 (p : Int)) ∧ Below w.heap.size w w'

theorem itemsGo_le (k p : Nat) (l : List UInt8) : (itemsGo k p l).length ≤ k := by
  induction k generalizing p l with
  | zero => simp [itemsGo]
  | succ k ih =>
    unfold itemsGo
    split
    · simp
    · split
      · exact Nat.le_succ_of_le (ih _ _)
      · split
        · exact Nat.le_succ_of_le (ih _ _)
        · split
          · simp
          · rw [List.length_cons]; exact Nat.succ_le_succ (ih _ _)
theorem items_le (l : List UInt8) : (items l).length ≤ l.length := itemsGo_le _ _ _

theorem below_drew {B : Nat} {a w : World} (h : Below B a w) : Below B a w.drew := h.trans ⟨rfl, rfl, rfl, Nat.le_refl _, fun _ _ => rfl⟩
theorem stop_at {s : ByteArray} {w W : World} {pre : List Item} {x : Item} (n1 : Nat) (a : Act) (hi : TInv s w.heap.size w pre W) (hn : x.n = 0) :
    ownPostG n1 (SameBlock (w.heap.size + 2)) (TInv s w.heap.size w) (TStop w.heap.size w) (pre ++ [x]) W .ret a
      (((W.setCell ⟨w.heap.size, 0, none⟩ (.slice none 0 0)).setCell ⟨w.heap.size + 1, 0, none⟩ (.iface 57 (.agg #[.pointer (some ⟨W.heap.size, 0, none⟩)]))).alloc (.cells #[.int .i64 4, .int .i64 (x.pos : Int)] 33)).drew := by
  obtain ⟨⟨v, hv, ho⟩, he, hg, hb, hW, h2⟩ := hi
  have hk : KeepsOthers W (((W.setCell ⟨w.heap.size, 0, none⟩ (.slice none 0 0)).setCell ⟨w.heap.size + 1, 0, none⟩ (.iface 57 (.agg #[.pointer (some ⟨W.heap.size, 0, none⟩)]))).alloc (.cells #[.int .i64 4, .int .i64 (x.pos : Int)] 33)).drew :=
    (((KeepsOthers.setCell _ _ _).trans (KeepsOthers.setCell _ _ _)).trans (KeepsOthers.alloc _ _)).trans (KeepsOthers.drew _)
  have hs1 : (W.setCell ⟨w.heap.size, 0, none⟩ (.slice none 0 0)).heap.size = W.heap.size := by simp
  have hs2 : ((W.setCell ⟨w.heap.size, 0, none⟩ (.slice none 0 0)).setCell ⟨w.heap.size + 1, 0, none⟩ (.iface 57 (.agg #[.pointer (some ⟨W.heap.size, 0, none⟩)]))).heap.size = W.heap.size := (by simp)
  refine ⟨hk.from _, rfl, ⟨pre, x, rfl, hn, hg, ?_, _, ?_, W.heap.size, rfl, hW, ?_⟩, ?_, Nat.le_trans hW hk.size⟩
  · exact (heap_old _ _ _ (by omega)).trans ((heap_set_ne (by omega) _ _).trans ((heap_set hv _ _).trans rfl))
  · exact (heap_old _ _ _ (by omega)).trans ((heap_set ((heap_set_ne (by omega) _ _).trans he) _ _).trans rfl)
  · exact heap_new _ _ _ hs2.symm
  · exact below_drew (((hb.setCell (Nat.le_refl _) _).setCell (Nat.le_succ _) _).alloc (by omega) _)
theorem res2 {tmps : Array Value} {W : World} {n0 : Nat} {v ev : Value} (hv : W.heap[n0]? = some (.cells #[v] 26 (0, 0))) (he : W.heap[n0 + 1]? = some (.cells #[ev] 28 (0, 0)))
    (h2 : tmps.getD 2 undef = .pointer (some ⟨n0, 0, none⟩)) (h3 : tmps.getD 3 undef = .pointer (some ⟨n0 + 1, 0, none⟩)) :
    (results Tryd.f11 tmps).run Tryd.prog W = .ok (.tuple #[v, ev]) W := by
  have c := cell_of hv 0
  have c' := cell_of he 0
  have r : (Tryd.f11).results = #[.cell 2 26, .cell 3 28] := rfl
  have g2 : tmps[2]?.getD undef = .pointer (some ⟨n0, 0, none⟩) := by rw [← h2]; simp
  have g3 : tmps[3]?.getD undef = .pointer (some ⟨n0 + 1, 0, none⟩) := by rw [← h3]; simp
  simp [results, r, g2, g3, go_sem, c, c']

/-! ### a region that draws, in a round: order by order -/
theorem any1 {F : Fence} {n : Nat} {P : Program} {md : Region.Mode} {ops : Array Oper} {Q : Exit → Act → World → Prop} {fuel : Nat} {listed : Array Bool} {a : Act} {w : World} (i : Nat) {o : Oper} (hr : Region.ready md ops listed = [i]) (hi : ops[i]? = some o) (hg : o.guard = none)
    (h : ∀ K : Act → World → Prop, (∀ a w, wpAnyIn F n P md ops Q fuel (listed.setIfInBounds i true) a w → K a w) → o.wpIn F n P a w K Q) : wpAnyIn F n P md ops Q (fuel + 1) listed a w := by
  refine ⟨fun h => by rw [hr] at h; simp at h, fun j hj => ?_⟩
  rw [hr] at hj
  simp at hj
  subst hj
  simp only [wpOpIn, hi, Region.wanted, hg, if_true]
  exact h _ (fun _ _ h => h)
theorem any2 {F : Fence} {n : Nat} {P : Program} {md : Region.Mode} {ops : Array Oper} {Q : Exit → Act → World → Prop} {fuel : Nat} {listed : Array Bool} {a : Act} {w : World} (i j : Nat) {o o' : Oper} (hr : Region.ready md ops listed = [i, j]) (hi : ops[i]? = some o) (hj : ops[j]? = some o') (hg : o.guard = none) (hg' : o'.guard = none)
    (h : ∀ K : Act → World → Prop, (∀ a w, wpAnyIn F n P md ops Q fuel (listed.setIfInBounds i true) a w → K a w) → o.wpIn F n P a w K Q)
    (h' : ∀ K : Act → World → Prop, (∀ a w, wpAnyIn F n P md ops Q fuel (listed.setIfInBounds j true) a w → K a w) → o'.wpIn F n P a w K Q) : wpAnyIn F n P md ops Q (fuel + 1) listed a w := by
  refine ⟨fun h => by rw [hr] at h; simp at h, fun k hk => ?_⟩
  rw [hr] at hk
  simp at hk
  rcases hk with rfl | rfl
  · simp only [wpOpIn, hi, Region.wanted, hg, if_true]
    exact h _ (fun _ _ h => h)
  · simp only [wpOpIn, hj, Region.wanted, hg', if_true]
    exact h' _ (fun _ _ h => h)
theorem any0 {F : Fence} {n : Nat} {P : Program} {md : Region.Mode} {ops : Array Oper} {Q : Exit → Act → World → Prop} {listed : Array Bool} {a : Act} {w : World} (hr : Region.ready md ops listed = []) (h : Q .normal a w) : wpAnyIn F n P md ops Q 0 listed a w := ⟨hr, h⟩

set_option maxRecDepth 100000 in
set_option maxHeartbeats 4000000 in
theorem Tokens_in (s : ByteArray) (w : World) (hs : s.size ≤ 1000000) :
    CallsIn FW 0 Tryd.prog 11 #[.string s] w (TokensPost s w) := by
  refine callsIn_of_wp_marks Tryd.func11 rfl trivial ?_ rfl
  simp only [Tryd.ntmps11, List.size_toArray, List.length_cons, List.length_nil, Nat.reduceAdd, Nat.reduceSub, Array.replicate_succ, Array.replicate_zero, List.push_toArray, List.append_toArray, List.nil_append, List.cons_append]
  gi_wp2_with fail
  refine inCall (tokens_calls s _) ?_
  rintro e w1 ⟨rfl, rfl⟩
  gi_wp2_with fail
  obtain ⟨W0, hW0⟩ : ∃ W0, ((w.alloc (.cells #[.slice none 0 0] 26)).alloc (.cells #[.nilIface] 28)).alloc (.cells #[.string s] 9) = W0 := ⟨_, rfl⟩
  have hsz : W0.heap.size = w.heap.size + 3 := by rw [← hW0]; simp
  have hB0 : Below w.heap.size w W0 := by rw [← hW0]; exact (((Below.refl _ w).alloc (Nat.le_refl _) _).alloc (by simp) _).alloc (by simp; omega) _
  have hbox : W0.heap[w.heap.size + 2]? = some (.cells #[.string s] 9 (0, 0)) := by rw [← hW0]; exact heap_new _ _ _ (by simp)
  have hb1 : W0.heap[w.heap.size + 1]? = some (.cells #[.nilIface] 28 (0, 0)) := by rw [← hW0, heap_old _ _ _ (by simp)]; exact heap_new _ _ _ (by simp)
  have hb2 : W0.heap[w.heap.size]? = some (.cells #[.slice none 0 0] 26 (0, 0)) := by rw [← hW0, heap_old _ _ _ (by simp; omega), heap_old _ _ _ (by simp)]; exact heap_new _ _ _ (by simp)
  rw [hW0]
  clear hW0
  refine range_wp (gf := 38) (lb := #[.pointer (some ⟨w.heap.size + 2, 0, none⟩)]) rfl (enters_of Tryd.func38 (by kernel_rfl) rfl) (fun _ => rfl)
    (iter_ok s (w.heap.size + 2) W0 (by omega) hbox) (Below.refl _ _)
    (fun {A B C} h k => (show C.heap[w.heap.size + 2]? = B.heap[w.heap.size + 2]? from k).trans h)
    (fun W l o o' hl h hc => by show (W.putObj l o').heap[w.heap.size + 2]? = _; exact World.putObj_heap_other (by omega))
    (TInv s w.heap.size w) (TStop w.heap.size w) (fun pre => by rw [hsz]; exact TInv_abide _ _ _ _) (fun c pre => by rw [hsz]; exact TStop_abide _ _ _ _)
    (fun pre x A h => h.2.2.1 x (by simp)) ⟨⟨_, hb2, World.ownsRow_nil _ _ _ _⟩, hb1, fun x hx => by simp at hx, hB0, by omega, hbox⟩
    (fun pre x a' W => ∃ bt, a' = { tmps := #[.string s, undef, .pointer (some ⟨w.heap.size, 0, none⟩), .pointer (some ⟨w.heap.size + 1, 0, none⟩), .pointer (some ⟨bt, 0, none⟩), .int .i64 (x.n : Int), .string s, .func (.func 38) #[] #[.pointer (some ⟨w.heap.size + 2, 0, none⟩)], .agg #[.int .i64 (x.kind : Int), .string (bs x.text), .int .i64 (x.pos : Int)], .int .i64 (x.n : Int), undef, undef, undef, undef, undef, undef, undef, undef, undef, undef, undef, undef, undef], defers := [] } ∧
      W.heap[bt]? = some (.cells (tkV (tkOf x)).toArray 43 (0, 0)) ∧ w.heap.size + 3 ≤ bt ∧ TInv s w.heap.size w pre W)
    (fun pre x a' A B row ⟨bt, ha, hbt, hlo, hi⟩ hg hr => ⟨bt, ha, Abide.block W0.heap.size bt _ _ _ A B row hbt hg hr, hlo, TInv_abide _ _ _ _ A B row hi hg (by rw [hsz] at hr; exact hr)⟩)
    ?assign ?body ?done ?stop
  case assign =>
    intro l pre x W K hi hpf hK
    simp only [itemV]
    gi_wp2_with fail
    have hW := hi.2.2.2.2.1
    exact hK _ _ ((KeepsOthers.alloc W _).from _) (heap_old _ _ _ (by omega)) ⟨W.heap.size, rfl, heap_new _ _ _ rfl, by omega, (TInv_abide _ _ _ _).alloc _ hi⟩
  case body =>
    rintro l pre x a' W ⟨bt, rfl, hbt, hlo, hi⟩ hpf
    obtain ⟨⟨v, hv, ho⟩, he, hg, hb, hW, h2⟩ := hi
    obtain ⟨i0, hi0, hii⟩ := Option.map_eq_some_iff.1 infoT
    obtain ⟨z0, hzz⟩ : ∃ z0 : Value, Value.agg #[.int .i64 0, .string ⟨#[]⟩, .int .i64 0] = z0 := ⟨_, rfl⟩
    rw [hzz] at hii
    have hz3 : z0.cells.size = 3 := by rw [← hzz]; rfl
    have hz0 : i0.zero = some z0 := congrArg (·.1) hii
    have hz1 : i0.size = 3 := congrArg (·.2.1) hii
    have hz2 : i0.bytes = 32 := congrArg (·.2.2) hii
    clear hii hzz
    have c0 : W.cell? ⟨bt, 0, none⟩ = some (.int .i64 (x.kind : Int)) := (cell_of hbt 0).trans rfl
    have c1 : W.cell? ⟨bt, 1, none⟩ = some (.string (bs x.text)) := (cell_of hbt 1).trans rfl
    have c2 : W.cell? ⟨bt, 2, none⟩ = some (.int .i64 (x.pos : Int)) := (cell_of hbt 2).trans rfl
    have cv : W.cell? ⟨w.heap.size, 0, none⟩ = some v := (cell_of hv 0).trans rfl
    have fv := frozen_of hv 0
    have ce : W.cell? ⟨w.heap.size + 1, 0, none⟩ = some .nilIface := (cell_of he 0).trans rfl
    have fe := frozen_of he 0
    have hlen : pre.length + 1 ≤ 1000000 := by
      have h1 := hpf.length_le
      have h2 := items_le s.data.toList
      rw [List.length_append] at h1
      rw [← Lib.size_eq] at h2
      simp at h1
      omega
    have hlt0 : w.heap.size < W.heap.size := by omega
    have hlt1 : w.heap.size + 1 < W.heap.size := by omega
    have Hs := fun a => stop_at (x := x) W0.heap.size a ⟨⟨v, hv, ho⟩, he, hg, hb, hW, h2⟩
    have HsH := Lib.hid Hs
    clear Hs
    by_cases hn : x.n = 0
    · have hn0 : ((x.n : Int) == 0) = true := by simp; omega
      have Hn := Lib.hid hn
      clear hn
      gi_wp2_with fail
      refine wpIn_region_any rfl ?_
      refine any2 0 6 (by decide +kernel) rfl rfl rfl rfl ?_ ?_
      · intro K0 hK0
        gi_wp2_with fail
        refine any2 1 6 (by decide +kernel) rfl rfl rfl rfl ?_ ?_
        · intro K0 hK0
          gi_wp2_with fail
          refine any2 2 6 (by decide +kernel) rfl rfl rfl rfl ?_ ?_
          · intro K0 hK0
            gi_wp2_with fail
            refine any2 3 6 (by decide +kernel) rfl rfl rfl rfl ?_ ?_
            · intro K0 hK0
              gi_wp2_with fail
              refine any2 4 6 (by decide +kernel) rfl rfl rfl rfl ?_ ?_
              · intro K0 hK0
                gi_wp2_with fail
                refine any2 5 6 (by decide +kernel) rfl rfl rfl rfl ?_ ?_
                · intro K0 hK0
                  gi_wp2_with fail
                  refine any1 6 (by decide +kernel) rfl rfl ?_
                  intro K0 hK0
                  gi_wp2_with fail
                  refine any1 7 (by decide +kernel) rfl rfl ?_
                  intro K0 hK0
                  gi_wp2_with fail
                  refine any0 (by decide +kernel) ?_
                  gi_wp2_with fail
                  exact HsH.out _ Hn.out
                · intro K0 hK0
                  gi_wp2_with fail
                  refine any1 5 (by decide +kernel) rfl rfl ?_
                  intro K0 hK0
                  gi_wp2_with fail
                  refine any1 7 (by decide +kernel) rfl rfl ?_
                  intro K0 hK0
                  gi_wp2_with fail
                  refine any0 (by decide +kernel) ?_
                  gi_wp2_with fail
                  exact HsH.out _ Hn.out
              · intro K0 hK0
                gi_wp2_with fail
                refine any1 4 (by decide +kernel) rfl rfl ?_
                intro K0 hK0
                gi_wp2_with fail
                refine any1 5 (by decide +kernel) rfl rfl ?_
                intro K0 hK0
                gi_wp2_with fail
                refine any1 7 (by decide +kernel) rfl rfl ?_
                intro K0 hK0
                gi_wp2_with fail
                refine any0 (by decide +kernel) ?_
                gi_wp2_with fail
                exact HsH.out _ Hn.out
            · intro K0 hK0
              gi_wp2_with fail
              refine any1 3 (by decide +kernel) rfl rfl ?_
              intro K0 hK0
              gi_wp2_with fail
              refine any1 4 (by decide +kernel) rfl rfl ?_
              intro K0 hK0
              gi_wp2_with fail
              refine any1 5 (by decide +kernel) rfl rfl ?_
              intro K0 hK0
              gi_wp2_with fail
              refine any1 7 (by decide +kernel) rfl rfl ?_
              intro K0 hK0
              gi_wp2_with fail
              refine any0 (by decide +kernel) ?_
              gi_wp2_with fail
              exact HsH.out _ Hn.out
          · intro K0 hK0
            gi_wp2_with fail
            refine any1 2 (by decide +kernel) rfl rfl ?_
            intro K0 hK0
            gi_wp2_with fail
            refine any1 3 (by decide +kernel) rfl rfl ?_
            intro K0 hK0
            gi_wp2_with fail
            refine any1 4 (by decide +kernel) rfl rfl ?_
            intro K0 hK0
            gi_wp2_with fail
            refine any1 5 (by decide +kernel) rfl rfl ?_
            intro K0 hK0
            gi_wp2_with fail
            refine any1 7 (by decide +kernel) rfl rfl ?_
            intro K0 hK0
            gi_wp2_with fail
            refine any0 (by decide +kernel) ?_
            gi_wp2_with fail
            exact HsH.out _ Hn.out
        · intro K0 hK0
          gi_wp2_with fail
          refine any1 1 (by decide +kernel) rfl rfl ?_
          intro K0 hK0
          gi_wp2_with fail
          refine any1 2 (by decide +kernel) rfl rfl ?_
          intro K0 hK0
          gi_wp2_with fail
          refine any1 3 (by decide +kernel) rfl rfl ?_
          intro K0 hK0
          gi_wp2_with fail
          refine any1 4 (by decide +kernel) rfl rfl ?_
          intro K0 hK0
          gi_wp2_with fail
          refine any1 5 (by decide +kernel) rfl rfl ?_
          intro K0 hK0
          gi_wp2_with fail
          refine any1 7 (by decide +kernel) rfl rfl ?_
          intro K0 hK0
          gi_wp2_with fail
          refine any0 (by decide +kernel) ?_
          gi_wp2_with fail
          exact HsH.out _ Hn.out
      · intro K0 hK0
        gi_wp2_with fail
        refine any1 0 (by decide +kernel) rfl rfl ?_
        intro K0 hK0
        gi_wp2_with fail
        refine any1 1 (by decide +kernel) rfl rfl ?_
        intro K0 hK0
        gi_wp2_with fail
        refine any1 2 (by decide +kernel) rfl rfl ?_
        intro K0 hK0
        gi_wp2_with fail
        refine any1 3 (by decide +kernel) rfl rfl ?_
        intro K0 hK0
        gi_wp2_with fail
        refine any1 4 (by decide +kernel) rfl rfl ?_
        intro K0 hK0
        gi_wp2_with fail
        refine any1 5 (by decide +kernel) rfl rfl ?_
        intro K0 hK0
        gi_wp2_with fail
        refine any1 7 (by decide +kernel) rfl rfl ?_
        intro K0 hK0
        gi_wp2_with fail
        refine any0 (by decide +kernel) ?_
        gi_wp2_with fail
        exact HsH.out _ Hn.out
    · have hn0 : ((x.n : Int) == 0) = false := by simp; omega
      have Hn := Lib.hid hn
      clear hn
      have Hx : Hid (tkV (tkOf x) = [.int .i64 (x.kind : Int), .string (bs x.text), .int .i64 (x.pos : Int)]) := Lib.hid rfl
      have Hv : Boxed W w.heap.size 26 v := hv
      gi_wp2_with (gi_at_builtin; refine wpListIn_append_own _ rfl _ _ 26 rfl w.heap.size 43 i0 z0 3 32 rfl hi0 hz0 hz1 hz2 hz3 (by decide) _ _ _ rfl (ho.alloc _) ⟨W.heap.size, 0, none⟩ 1 1 (tkV (tkOf x)) rfl rfl (by rw [Hx.out]; exact fun j u hj => cells_new hj) (by rw [Hx.out]; simp [Value.oneCell']) (by simp [maxLen]; omega) (by omega) (by simp; omega) ?_; intro v' w1 hown' hgrow _; obtain ⟨g', cap', rfl⟩ := ownsRow_succ hown'; obtain ⟨hv1, hv2, hr2, hk2, hb2⟩ := Hv.appended (by decide) ho (by omega) (Nat.le_refl _) hown' hgrow; have hc1 := hv1.cell; have hf1 := hv1.frozen)
      refine ⟨hk2.from _, (box_after h2 (by decide) ho hgrow (by omega)).trans h2.symm, ⟨_, hv2, ?_⟩, box_after he (by decide) ho hgrow (by omega), ?_, hb.trans hb2, Nat.le_trans hW hk2.size, box_after h2 (by decide) ho hgrow (by omega)⟩
      · rw [List.length_append, List.map_append, List.map_singleton, tksV_snoc]; exact hr2
      · intro y hy
        rcases List.mem_append.1 hy with hy | hy
        · exact hg y hy
        · simp at hy; subst hy; exact Hn.out
  case done =>
    rintro D xs W hD rfl hi hK
    obtain ⟨⟨v, hv, ho⟩, he, hg, hb, hW, h2⟩ := hi
    obtain ⟨p, n, c, rfl⟩ : ∃ p n c, v = .slice p n c := by
      rcases ho.2 with ⟨h, _⟩ | ⟨g, cap, cur, h, _⟩
      · exact ⟨_, _, _, h⟩
      · exact ⟨_, _, _, h⟩
    have cv : W.cell? ⟨w.heap.size, 0, none⟩ = some (.slice p n c) := (cell_of hv 0).trans rfl
    have fv := frozen_of hv 0
    have ce : W.cell? ⟨w.heap.size + 1, 0, none⟩ = some .nilIface := (cell_of he 0).trans rfl
    have fe := frozen_of he 0
    gi_wp2_with fail
    have hk1 : KeepsOthers W ((W.setCell ⟨w.heap.size, 0, none⟩ (.slice p n c)).setCell ⟨w.heap.size + 1, 0, none⟩ .nilIface) := (KeepsOthers.setCell _ _ _).trans (KeepsOthers.setCell _ _ _)
    refine ⟨by simp, .inl ⟨_, _, rfl, run_takeDeferred (hk1.same _ _ hK rfl), ?_⟩⟩
    have hv' : ((W.setCell ⟨w.heap.size, 0, none⟩ (.slice p n c)).setCell ⟨w.heap.size + 1, 0, none⟩ .nilIface).heap[w.heap.size]? = some (.cells #[.slice p n c] 26 (0, 0)) := (heap_set_ne (by omega) _ _).trans ((heap_set hv _ _).trans rfl)
    have he' : ((W.setCell ⟨w.heap.size, 0, none⟩ (.slice p n c)).setCell ⟨w.heap.size + 1, 0, none⟩ .nilIface).heap[w.heap.size + 1]? = some (.cells #[.nilIface] 28 (0, 0)) := (heap_set ((heap_set_ne (by omega) _ _).trans he) _ _).trans rfl
    have ho' := (ho.kept (grownBy_setCell' W w.heap.size (.slice p n c)) (.inr (Boxed.not_row (show Boxed W w.heap.size 26 _ from hv) (by decide) ho).symm))
    have ho'' := ho'.kept (grownBy_setCell' _ (w.heap.size + 1) .nilIface) (.inr (Boxed.not_row (show Boxed W (w.heap.size + 1) 28 _ from he) (by decide) ho).symm)
    have hKs := hk1.same _ _ hK rfl
    refine ⟨_, res2 ((World.putObj_heap_other (by omega)).trans hv') ((World.putObj_heap_other (by omega)).trans he') rfl rfl, ?_⟩
    refine ⟨_, _, rfl, ?_⟩
    rw [toks_all hg]
    refine ⟨?_, rfl, ?_⟩
    · rw [List.length_map]; exact ownsRow_putObj ho'' _ hKs rfl
    · exact below_putObj ((hb.setCell (Nat.le_refl _) _).setCell (Nat.le_succ _) _) (by omega) _
  case stop =>
    rintro D c pre W hD hpf ⟨rfl, hp, hb, hW⟩ hK
    gi_wp2_with fail
    refine ⟨by simp, .inl ⟨_, _, rfl, run_takeDeferred hK, ?_⟩⟩
    obtain ⟨p, x, rfl, hx, hy, h0, v, h1, hf⟩ := hp
    refine ⟨_, res2 ((World.putObj_heap_other (by omega)).trans h0) ((World.putObj_heap_other (by omega)).trans h1) rfl rfl, ?_⟩
    refine ⟨_, _, rfl, ?_⟩
    rw [toks_stop hpf hx hy]
    refine ⟨World.ownsRow_nil _ _ _ _, ⟨rfl, ?_⟩, below_putObj hb (by omega) _⟩
    obtain ⟨eb, hv, hlo, heb⟩ := hf
    exact ⟨eb, hv, by omega, (World.putObj_heap_other (by rintro rfl; rw [hK] at heb; cases heb)).trans heb⟩
theorem Tokens_calls (s : ByteArray) (w : World) (hs : s.size ≤ 1000000) : Calls Tryd.prog 11 #[.string s] w (TokensPost s w) := callsIn_wide.1 (Tokens_in s w hs)
end Go.Proofs.YtndejiminaopeaaDoor
