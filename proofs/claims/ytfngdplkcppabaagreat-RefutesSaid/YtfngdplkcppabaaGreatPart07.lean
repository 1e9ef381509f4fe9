/-
  slices.AppendSeq's round. (Printed by seq.py.)
  slices.AppendSeq, slices.Collect over maps.Values. (Printed by seq.py.)
  slices.SortFunc of members.
  slices.SortFunc at structs, as a contract on lists.
  slices.SortedFunc over maps.Values, updates.
  slices.SortFunc of members, as a contract on ids.
-/
import Derived.Test.YtfngdplkcppabaaGreatPart06
import Derived.Test.YtfngdplkcppabaaGreatPart05
import Derived.Test.YtfngdplkcppabaaGreatShelf
set_option linter.all false
namespace Go.Proofs.YtfngdplkcppabaaGreat
open Go.RowKit Go.Maps
def cellsQ (x : Upd) : List Value := [.int .i64 x.k.id, .int .i64 x.k.inc, .int .i64 x.k.st, .int .i64 x.sent]
def asgQ : Code := .region 2 #[{ dst := some 5, op := Op.alloc 130, type := 0, pos := "iter.go:51", after := #[], guard := none }, { dst := none, op := Op.store 130 (Operand.tmp 5) (Operand.tmp 7), type := 0, pos := "iter.go:51", after := #[{ on := 0, ground := Ground.data }, { on := 0, ground := Ground.phase }], guard := none }] false
def bdyQ : Code :=
  .block 1 (.region 3
    #[{ dst := some 8, op := Op.load 127 (Operand.tmp 2), type := 127, pos := "iter.go:52", after := #[], guard := none },
      { dst := some 9, op := Op.load 130 (Operand.tmp 5), type := 130, pos := "iter.go:52", after := #[], guard := none },
      { dst := some 10, op := Op.buildSlice 127 1 #[(0, Operand.tmp 9)], type := 127, pos := "iter.go:52", after := #[{ on := 1, ground := Ground.data }], guard := none },
      { dst := some 11, op := Op.call { callee := Callee.builtin Builtin.append, args := #[Operand.tmp 8, Operand.tmp 10], argTypes := #[127, 127] }, type := 127, pos := "iter.go:52", after := #[{ on := 0, ground := Ground.data }, { on := 2, ground := Ground.data }], guard := none },
      { dst := none, op := Op.store 127 (Operand.tmp 2) (Operand.tmp 11), type := 0, pos := "iter.go:52",
        after := #[{ on := 3, ground := Ground.data }, { on := 3, ground := Ground.chain }, { on := 0, ground := Ground.phase }, { on := 1, ground := Ground.phase }, { on := 2, ground := Ground.phase }, { on := 3, ground := Ground.phase }], guard := none }] false)
def recQ (fn : FuncId) (sv : Value) (Bs D : Nat) (st : LoopState) : Loop :=
  { state := st, pending := none, fn, tmps := #[.slice none 0 0, sv, .pointer (some ⟨Bs, 0, none⟩), undef, .slice none 0 0, undef, sv, undef, undef, undef, undef, undef, undef], params := #[7], assign := asgQ, body := bdyQ, defers := D }
/-- Between two rounds: the box has what has come. -/
structure GathQ (w0 : World) (fn : FuncId) (sv : Value) (Bs l D : Nat) (ss : List Upd) (W : World) : Prop where
  box : ∃ v, W.heap[Bs]? = some (.cells #[v] 127 (0, 0)) ∧ W.ownsRow w0.heap.size 130 4 v ss.length (ss.flatMap cellsQ) ∧ (v = .slice none 0 0 ↔ ss = [])
  loop : W.heap[l]? = some (.loop (recQ fn sv Bs D .ready))
  defd : W.heap[D]? = some (.deferred (some []))
  below : Below w0.heap.size w0 W
theorem gath_abidesQ (w0 : World) (fn : FuncId) (sv : Value) (Bs l D B : Nat) (hB : w0.heap.size ≤ B) : AbidesFrom B (GathQ w0 fn sv Bs l D) := fun s W W' row h hg hrow => by
  have hrow' : ∀ r, row = some r → ∃ o : Obj, W.heap[r]? = some o ∧ o.isWalk = true := fun r e => (hrow r e).2
  obtain ⟨v, hv, hr, hn⟩ := h.box
  exact ⟨⟨v, (grownBy_keeps hg hrow' hv rfl).trans hv, ownsRow_abides_a hr hg hrow', hn⟩, (grownBy_keeps hg hrow' h.loop rfl).trans h.loop, (grownBy_keeps hg hrow' h.defd rfl).trans h.defd,
    h.below.grown hg h.below.size (fun k e => Nat.le_trans hB (hrow k e).1)⟩
theorem info_elQ : (Tryz.prog.info? 130).map (fun i => (i.zero, i.size, i.bytes)) = some (some (.agg #[.int .i64 0, .int .i64 0, .int .i64 0, .int .i64 0]), 4, 32) := by kernel_rfl
set_option maxRecDepth 100000 in
set_option maxHeartbeats 2000000 in
theorem roundQ (m : Nat) (w0 : World) (fn : FuncId) (sv : Value) (Bs l D : Nat) (hBl : Bs ≠ l) (hDl : D ≠ l) (hDB : D ≠ Bs) (h0B : w0.heap.size ≤ Bs) (h0l : w0.heap.size ≤ l) (ss : List Upd) (x : Upd) (W : World) (h : GathQ w0 fn sv Bs l D ss W) (hlen : ss.length < 1000000) :
    YieldAt Fence.wide m Tryz.prog l #[encQ x] W fun e W' => e = .returned (.bool true) ∧ GathQ w0 fn sv Bs l D (ss ++ [x]) W' ∧ KeepsWalks W W' := by
  have hne : (127 : Nat) ≠ 130 := by decide
  obtain ⟨i0, hi, hz0, hz1, hz2⟩ := info_parts info_elQ
  refine ⟨fn, #[.slice none 0 0, sv, .pointer (some ⟨Bs, 0, none⟩), undef, .slice none 0 0, undef, sv, encQ x, undef, undef, undef, undef, undef], asgQ, bdyQ, by simpa [recQ] using run_yield (P := Tryz.prog) (args := #[encQ x]) h.loop rfl, roundIn_of_wpIn trivial ?_⟩
  obtain ⟨⟨y1, y2, y3⟩, y4⟩ := x
  obtain ⟨W1, hW1⟩ : ∃ W1, W.alloc (.cells #[.int .i64 y1, .int .i64 y2, .int .i64 y3, .int .i64 y4] 130) = W1 := ⟨_, rfl⟩
  have hx1 : W1.heap[W.heap.size]? = some (.cells #[.int .i64 y1, .int .i64 y2, .int .i64 y3, .int .i64 y4] 130 (0, 0)) := by rw [← hW1]; exact heap_alloc_eq _ _
  have h1 : GathQ w0 fn sv Bs l D ss W1 := gath_abidesQ w0 fn sv Bs l D w0.heap.size (Nat.le_refl _) ss W W1 none h (by rw [← hW1]; exact World.grownBy_alloc _ _ _) (fun r e => by cases e)
  obtain ⟨v, hv, hrow, _⟩ := h1.box
  have hl : l < W1.heap.size := heap_lt h1.loop
  have hbr := run_beginRound (P := Tryz.prog) h1.loop rfl
  obtain ⟨W2, hW2⟩ : ∃ W2, W1.putObj l (.loop { recQ fn sv Bs D .ready with state := .busy }) = W2 := ⟨_, rfl⟩
  rw [hW2] at hbr
  have hg2 : W1.grownBy W2 (some l) := by rw [← hW2]; exact grownBy_putObj_a _ _ _
  have hk2 : KeepsWalks W W2 := by rw [← hW2]; exact (by rw [← hW1]; exact KeepsWalks.alloc _ _ : KeepsWalks W W1).trans (KeepsWalks.putObj _ h1.loop rfl)
  have hv2 : W2.heap[Bs]? = some (.cells #[v] 127 (0, 0)) := by rw [← hW2]; exact (World.putObj_heap_other hBl).trans hv
  have hK2 : W2.heap[D]? = some (.deferred (some [])) := by rw [← hW2]; exact (World.putObj_heap_other hDl).trans h1.defd
  have hL2 : W2.heap[l]? = some (.loop { recQ fn sv Bs D .ready with state := .busy }) := by rw [← hW2]; exact World.putObj_heap_same hl
  have hrow2 : W2.ownsRow w0.heap.size 130 4 v ss.length (ss.flatMap cellsQ) := hrow.kept hg2 (ownsRow_ne_a hrow h1.loop (fun cur e => by cases e))
  have hb2 : Below w0.heap.size w0 W2 := h1.below.grown hg2 h1.below.size (fun k e => by cases e; exact h0l)
  clear hW2
  unfold asgQ
  have hx2 : W2.heap[W.heap.size]? = some (.cells #[.int .i64 y1, .int .i64 y2, .int .i64 y3, .int .i64 y4] 130 (0, 0)) := (hg2.block _ (heap_lt hx1) (fun e => by have := h1.loop; cases e; rw [hx1] at this; cases this)).trans hx1
  have c0 := cells_at hx2 0
  have c1 := cells_at hx2 1
  have c2 := cells_at hx2 2
  have c3 := cells_at hx2 3
  simp only [List.getElem?_toArray, List.getElem?_cons_succ, List.getElem?_cons_zero] at c0 c1 c2 c3
  clear hx1 hx2
  simp only [Upd.v]
  gi_wp2_with gi_round_op_a
  obtain ⟨hc2, hf2⟩ := cell_of_box_a hv2
  have hBlt : Bs < W2.heap.size := heap_lt hv2
  have hl2 : l < W2.heap.size := heap_lt hL2
  have hDlt : D < W2.heap.size := heap_lt hK2
  have hs2 := hb2.size
  have ne_of : ∀ {j : Nat} {o : Obj}, W2.heap[j]? = some o → (∀ cur, o ≠ .cells cur 130 (0, 0)) → some j ≠ v.ownBlock := fun hj hno => by
    rcases ownsRow_ne_a hrow2 hj hno with e | e
    · rw [e]; simp
    · exact fun e' => e e'.symm
  unfold bdyQ
  have hnews : ∀ j u, (cellsQ (⟨⟨y1, y2, y3⟩, y4⟩ : Upd))[j]? = some u → (W2.alloc (.cells (cellsQ (⟨⟨y1, y2, y3⟩, y4⟩ : Upd)).toArray 130)).cell? ((⟨W2.heap.size, 0, none⟩ : Addr).add j) = some u := cells_new W2 (cellsQ (⟨⟨y1, y2, y3⟩, y4⟩ : Upd)) 130 rfl
  have hone : ∀ u ∈ cellsQ (⟨⟨y1, y2, y3⟩, y4⟩ : Upd), u.oneCell' = true := by simp [cellsQ, Value.oneCell']
  have b1 : ss.length + 1 ≤ maxLen := by unfold maxLen; omega
  have b2 : (ss.length + 1) * 32 ≤ 140737488355328 := by omega
  gi_wp2_with (first
    | (gi_at_builtin; refine wpListIn_append_own _ rfl _ _ 127 rfl w0.heap.size 130 i0 (.agg #[.int .i64 0, .int .i64 0, .int .i64 0, .int .i64 0]) 4 32 Tryz.underlying127 hi hz0 hz1 hz2 rfl (by decide) _ _ _ rfl (hrow2.alloc _) ⟨W2.heap.size, 0, none⟩ 1 1 (cellsQ (⟨⟨y1, y2, y3⟩, y4⟩ : Upd)) rfl rfl hnews hone b1 b2 (by simp; omega) ?_; intro v' w3 hown' hg3 hnil3
       have hv3 : w3.heap[Bs]? = some (.cells #[v] 127 (0, 0)) := (hg3.block Bs (by simp; omega) (ne_of hv2 (fun cur e => by first | cases e | exact hne (Obj.cells.inj e).2.1))).trans ((Below.heap_alloc _ _ Bs hBlt).trans hv2)
       obtain ⟨hc3, hf3⟩ := cell_of_box_a hv3
       obtain ⟨g', cap', cur', rfl, hbase', hgb', hr1, hr2, hr3, hr4⟩ : ∃ g' cap' cur', v' = .slice (some ⟨g', 0, none⟩) (ss.length + 1) cap' ∧ w0.heap.size ≤ g' ∧ w3.heap[g']? = some (.cells cur' 130 (0, 0)) ∧ ss.length + 1 ≤ cap' ∧ cap' ≤ maxLen ∧ cur'.size = cap' * 4 ∧ cur'.toList.take ((ss.length + 1) * 4) = ss.flatMap cellsQ ++ cellsQ (⟨⟨y1, y2, y3⟩, y4⟩ : Upd) := by
         rcases hown'.2 with ⟨_, h0⟩ | h'
         · exact absurd h0 (by omega)
         · exact h'
       go_frame)
    | gi_round_op_a)
  have hg3' : (W2.alloc (.cells (cellsQ (⟨⟨y1, y2, y3⟩, y4⟩ : Upd)).toArray 130)).grownBy w3 v.ownBlock := hg3
  have hL3 : w3.heap[l]? = some (.loop { recQ fn sv Bs D .ready with state := .busy }) := (hg3'.block l (by simp; omega) (ne_of hL2 (fun cur e => by cases e))).trans ((Below.heap_alloc _ _ l hl2).trans hL2)
  have hK3 : w3.heap[D]? = some (.deferred (some [])) := (hg3'.block D (by simp; omega) (ne_of hK2 (fun cur e => by cases e))).trans ((Below.heap_alloc _ _ D hDlt).trans hK2)
  obtain ⟨w4, hw4⟩ : ∃ w4, w3.setCell ⟨Bs, 0, none⟩ (.slice (some ⟨g', 0, none⟩) (ss.length + 1) cap') = w4 := ⟨_, rfl⟩
  rw [hw4]
  have hg4 : w3.grownBy w4 (some Bs) := by rw [← hw4]; exact grownBy_setCell0_a _ _ _
  have hv4 : w4.heap[Bs]? = some (.cells #[.slice (some ⟨g', 0, none⟩) (ss.length + 1) cap'] 127 (0, 0)) := by rw [← hw4]; exact heap_setCell_box_a _ hv3
  have hL4 : w4.heap[l]? = some (.loop { recQ fn sv Bs D .ready with state := .busy }) := (hg4.block l (heap_lt hL3) (fun e => hBl (by cases e; rfl))).trans hL3
  have hK4 : w4.heap[D]? = some (.deferred (some [])) := (hg4.block D (heap_lt hK3) (fun e => hDB (by cases e; rfl))).trans hK3
  have hrow4 := hown'.kept hg4 (ownsRow_ne_a hown' hv3 (fun cur e => hne (Obj.cells.inj e).2.1))
  have hl4 : l < w4.heap.size := heap_lt hL4
  have hb3 : Below w0.heap.size w0 w3 := (hb2.alloc hb2.size _).grown hg3' (by simp; omega) (fun k e => (hrow2.lt k e).1)
  have hb4 : Below w0.heap.size w0 w4 := hb3.grown hg4 hb3.size (fun k e => by cases e; exact h0B)
  have hk4 : KeepsWalks W w4 := ((hk2.trans (KeepsWalks.alloc _ _)).trans (KeepsWalks.of_grownBy hg3' (ownsRow_not_walk_a (hrow2.alloc _)))).trans (by rw [← hw4]; exact KeepsWalks.setCell _ _ _)
  clear hw4
  refine ⟨_, _, run_endRound none hL4, rfl, ⟨⟨_, (World.putObj_heap_other hBl).trans hv4, ?_, by simp⟩, World.putObj_heap_same hl4, (World.putObj_heap_other hDl).trans hK4, hb4.grown (grownBy_putObj_a _ _ _) hb4.size (fun k e => by cases e; exact h0l)⟩, hk4.trans (KeepsWalks.putObj _ hL4 rfl)⟩
  have := hrow4.kept (grownBy_putObj_a w4 l (.loop { { recQ fn sv Bs D .ready with state := .busy } with state := if (none : Option Code).isNone then .ready else .done, pending := none })) (ownsRow_ne_a hrow4 hL4 (fun cur e => by cases e))
  simpa using this
end Go.Proofs.YtfngdplkcppabaaGreat
namespace Go.Proofs.YtfngdplkcppabaaGreat
open Go.RowKit Go.Maps
set_option maxRecDepth 100000 in
set_option maxHeartbeats 2000000 in
theorem collQ (n : Nat) (hn : 3 ≤ n) (b : Nat) (L : List (Int × Value)) (hE : ∀ p ∈ L, ∃ y : Upd, p.2 = encQ y) (Bm : Nat) (w : World) (hl : L.length < 1000000) (hBm : Bm < w.heap.size) (hm : w.cell? ⟨Bm, 0, none⟩ = some (.map (some b))) (hM : MapAt Tryz.prog 3 w b L) :
    CallsIn Fence.wide n Tryz.prog 96 #[.slice none 0 0, .func (.func 84) #[] #[.pointer (some ⟨Bm, 0, none⟩)]] w fun e w' =>
      ∃ (v : Value) (ps : List (Int × Upd)), e = .returned v ∧ (ps.map (fun p => (p.1, encQ p.2))).Perm L ∧ w'.ownsRow w.heap.size 130 4 v ps.length ((ps.map (·.2)).flatMap cellsQ) ∧ (v = .slice none 0 0 ↔ ps = []) ∧ Below w.heap.size w w' := by
  have hne : (127 : Nat) ≠ 130 := by decide
  obtain ⟨D0, hown, hMI⟩ := hM
  have eg : ∀ args w, (callFunc 84 args).run Tryz.prog w = .ok (.enter 84 args) w := enters_of Tryz.func84 (by kernel_rfl) rfl
  refine callsIn_of_wp_marks Tryz.func96 rfl trivial ?_ rfl
  simp only [Tryz.ntmps96, List.size_toArray, List.length_cons, List.length_nil, Nat.reduceAdd, Nat.reduceSub, Array.replicate_succ, Array.replicate_zero, List.push_toArray, List.append_toArray, List.nil_append, List.cons_append]
  gi_wp2
  refine wpIn_rangeFunc ?_
  intro fn hfn
  obtain ⟨W0, hW0⟩ : ∃ W0, w.alloc (.cells #[.slice none 0 0] 127) = W0 := ⟨_, rfl⟩
  have hs0 : W0.heap.size = w.heap.size + 1 := by rw [← hW0]; simp
  have hv0 : W0.heap[w.heap.size]? = some (.cells #[.slice none 0 0] 127 (0, 0)) := by rw [← hW0]; exact heap_alloc_eq w _
  have hb0 : Below w.heap.size w W0 := by rw [← hW0]; exact (Below.refl _ w).alloc (Nat.le_refl _) _
  rw [hW0]
  obtain ⟨W1, hW1⟩ : ∃ W1, (W0.alloc (.deferred (some []))).alloc (.loop (recQ fn (.func (.func 84) #[] #[.pointer (some ⟨Bm, 0, none⟩)]) w.heap.size W0.heap.size .ready)) = W1 := ⟨_, rfl⟩
  have hold : ∀ k, k < W0.heap.size → W1.heap[k]? = W0.heap[k]? := fun k hk => by
    rw [← hW1]; exact (Below.heap_alloc _ _ k (by simp; omega)).trans (Below.heap_alloc _ _ k hk)
  have hb1 : Below w.heap.size w W1 := by rw [← hW1]; exact (hb0.alloc hb0.size _).alloc (by have := hb0.size; simp; omega) _
  have hs1 : W1.heap.size = W0.heap.size + 2 := by rw [← hW1]; simp
  have hG : GathQ w fn (.func (.func 84) #[] #[.pointer (some ⟨Bm, 0, none⟩)]) w.heap.size (W0.heap.size + 1) W0.heap.size [] W1 :=
    ⟨⟨_, (hold w.heap.size (by omega)).trans hv0, ⟨rfl, .inl ⟨rfl, rfl⟩⟩, by simp⟩,
     by rw [← hW1]; exact heap_new _ _ (by simp),
     by rw [← hW1]; exact heap_old _ (heap_alloc_eq W0 _), hb1⟩
  refine ⟨W0.heap.size + 1, [{ target := .collected W0.heap.size, args := #[] }], W1, { target := .fn (.func 84) #[.pointer (some ⟨Bm, 0, none⟩)], args := #[.func (.yield (W0.heap.size + 1)) #[] #[]] }, W1, 84,
    #[.func (.yield (W0.heap.size + 1)) #[] #[]] ++ #[.pointer (some ⟨Bm, 0, none⟩)], W1, ?_, ?_, ?_, ?_, fun _ => by omega, ?_⟩
  · rw [← hW1]; exact run_enterLoop_outer _ _ _ _ _
  · simp [resolve, go_sem]
  · intro f' _; trivial
  · simp [invoke, go_sem, eg]
  · have hown1 : W1.ownsMap Tryz.prog 3 RV b L.length D0 := by
      have hbl := hown.lt
      obtain ⟨es, clock, hb, Ft, hs, hD⟩ := hown
      exact ⟨es, clock, (hb1.block b hbl).trans hb, Ft, hs, hD⟩
    refine (vals1Q (n - 1) (by omega) (W0.heap.size + 1) Bm b L.length D0 L hMI hE (GathQ w fn (.func (.func 84) #[] #[.pointer (some ⟨Bm, 0, none⟩)]) w.heap.size (W0.heap.size + 1) W0.heap.size)
      (fun pre x W hJ hlt => roundQ (n - 1 - 1) w fn _ w.heap.size (W0.heap.size + 1) W0.heap.size (by omega) (by omega) (by omega) (Nat.le_refl _) (by omega) pre x W hJ (by omega)) W1 (gath_abidesQ _ _ _ _ _ _ _ hb1.size) ((hb1.cell (p := ⟨Bm, 0, none⟩) hBm).trans hm) hown1 hG).mono ?_
    rintro e W2 ⟨⟨v0, rfl⟩, ps, hS, h2⟩
    obtain ⟨v, hv, hrow, hnil⟩ := h2.box
    have hend := run_endLoop (P := Tryz.prog) h2.loop (by simp [recQ])
    obtain ⟨W3, hW3⟩ : ∃ W3, W2.putObj (W0.heap.size + 1) (.loop { recQ fn (.func (.func 84) #[] #[.pointer (some ⟨Bm, 0, none⟩)]) w.heap.size W0.heap.size .ready with state := .exhausted }) = W3 := ⟨_, rfl⟩
    rw [hW3] at hend
    have hg3 : W2.grownBy W3 (some (W0.heap.size + 1)) := by rw [← hW3]; exact grownBy_putObj_a _ _ _
    have hv3 : W3.heap[w.heap.size]? = some (.cells #[v] 127 (0, 0)) := by rw [← hW3]; exact (World.putObj_heap_other (by omega)).trans hv
    have hK3 : W3.heap[W0.heap.size]? = some (.deferred (some [])) := by rw [← hW3]; exact (World.putObj_heap_other (by omega)).trans h2.defd
    have hrow3 := hrow.kept hg3 (ownsRow_ne_a hrow h2.loop (fun cur e => by cases e))
    have hb3 : Below w.heap.size w W3 := h2.below.grown hg3 h2.below.size (fun k e => by cases e; omega)
    obtain ⟨hc3, hf3⟩ := cell_of_box_a hv3
    clear hW3
    refine ⟨none, W3, hend, ?_⟩
    gi_wp2
    rw [← hs0]
    refine ⟨by simp, .inl ⟨_, _, rfl, run_takeDeferred hK3, ?_⟩⟩
    refine ⟨_, results_tmp rfl _ _ _, v, ps, rfl, hS, ?_, by simpa using hnil, hb3.grown (grownBy_putObj_a _ _ _) hb3.size (fun k e => by cases e; omega)⟩
    have := hrow3.kept (grownBy_putObj_a W3 W0.heap.size (.deferred none)) (ownsRow_ne_a hrow3 hK3 (fun cur e => by cases e))
    simpa using this
end Go.Proofs.YtfngdplkcppabaaGreat
namespace Go.Proofs.YtfngdplkcppabaaGreat
open Go.RowKit
section
open Go.Shelf Go.Lib Go.Sort

theorem ltOf_cmpI {α : Type} (f : α → Int) (x y : α) : ltOf (fun x y => cmpI (f x) (f y)) x y = decide (f x < f y) := by
  show decide (cmpI (f x) (f y) < 0) = _
  rw [decide_eq_decide]
  unfold cmpI
  split
  · simp [*]
  · split
    · exact ⟨fun h => by omega, fun h => by omega⟩
    · exact ⟨fun h => by omega, fun h => by omega⟩
theorem cmpI_swo {α : Type} (f : α → Int) : SWO (ltOf fun x y => cmpI (f x) (f y)) :=
  ⟨fun x => by rw [ltOf_cmpI]; simp, fun x y z h1 h2 => by rw [ltOf_cmpI, decide_eq_true_eq] at *; omega, fun x y z h1 h2 => by rw [ltOf_cmpI, decide_eq_false_iff_not] at *; omega⟩
/-- Sorted: what rises already, is what comes of it. -/
theorem sort_rise {l l' : List Int} (hp : l.Perm l') (h : Rise l') : l.mergeSort (fun x y => !decide (y < x)) = l' := by
  have h1 : (l.mergeSort (fun x y => !decide (y < x))).Pairwise (· ≤ ·) := by
    have := List.pairwise_mergeSort (le := fun x y : Int => !decide (y < x)) (by intro a b c h1 h2; simp at *; omega) (by intro a b; simp; omega) l
    exact this.imp (by intro a b hab; simpa using hab)
  exact ((List.mergeSort_perm l _).trans hp).eq_of_pairwise (fun a b _ _ h1 h2 => by omega) h1 (h.imp (by intro a b hab; omega))
/-- What a sort leaves but the row. -/
theorem chg_sortWorld {α : Type} [Inhabited α] (enc : α → Value) (w : World) (blk off n : Nat) (d : Array α) (os : Array Obj) : Chg (fun j _ => j = blk) w (sortWorld enc w blk off n d os) := by
  refine (chg_putRow enc w n blk off d).trans ⟨rfl, rfl, rfl, by simp [sortWorld, grow], fun k o ho _ => ?_⟩
  unfold sortWorld
  have hk := heap_lt ho
  simp only [grow]
  rw [Array.getElem?_append_left hk]; exact ho
theorem heap_sortWorld {α : Type} [Inhabited α] (enc : α → Value) {w : World} {blk : Nat} (off n : Nat) (d : Array α) (os : Array Obj) {cur : Array Value} {t : TypeId} {f : Nat × Nat} (h : w.heap[blk]? = some (.cells cur t f)) :
    (sortWorld enc w blk off n d os).heap[blk]? = some (.cells (putCells enc off d cur) t f) := by
  have h1 : (putRow enc (Sort.ahead w n) blk off d).heap[blk]? = some (.cells (putCells enc off d cur) t f) := heap_putRow enc off d h
  unfold sortWorld
  simp only [grow]
  rw [Array.getElem?_append_left (heap_lt h1)]; exact h1
end
end Go.Proofs.YtfngdplkcppabaaGreat
namespace Go.Proofs.YtfngdplkcppabaaGreat
open Go.RowKit
section
open Go.Shelf Go.Lib Go.Sort

theorem flat_at {α : Type} (enc : α → List Value) (k : Nat) (hk : ∀ x, (enc x).length = k) (l : List α) (i t : Nat) (ht : t < k) (x : α) (hi : l[i]? = some x) : (l.flatMap enc)[i * k + t]? = (enc x)[t]? := by
  induction l generalizing i with
  | nil => simp at hi
  | cons a r ih =>
    rw [List.flatMap_cons]
    cases i with
    | zero =>
      simp only [List.getElem?_cons_zero, Option.some.injEq] at hi
      subst hi
      rw [Nat.zero_mul, Nat.zero_add, List.getElem?_append_left (by rw [hk]; exact ht)]
    | succ i =>
      simp only [List.getElem?_cons_succ] at hi
      rw [List.getElem?_append_right (by rw [hk, Nat.add_mul]; omega), hk]
      have : (i + 1) * k + t - k = i * k + t := by rw [Nat.add_mul]; omega
      rw [this]
      exact ih i hi
theorem flat_length {α : Type} (enc : α → List Value) (k : Nat) (hk : ∀ x, (enc x).length = k) (l : List α) : (l.flatMap enc).length = l.length * k := by
  induction l with
  | nil => simp
  | cons a r ih => rw [List.flatMap_cons, List.length_append, ih, hk, List.length_cons, Nat.add_mul]; omega
theorem flatK_list {α : Type} [Inhabited α] (enc : α → List Value) (k : Nat) (hk : ∀ x, (enc x).length = k) (d : Array α) : (flatK enc k d).toList = d.toList.flatMap enc := by
  refine List.ext_getElem? (fun t => ?_)
  by_cases ht : t < d.size * k
  · have k0 : 0 < k := by rcases Nat.eq_zero_or_pos k with h | h; · subst h; simp at ht
                          · exact h
    have h1 : t / k < d.size := by rw [Nat.div_lt_iff_lt_mul k0]; exact ht
    have h2 := flat_at enc k hk d.toList (t / k) (t % k) (Nat.mod_lt _ k0) d[t / k] (by simp [h1])
    rw [Nat.div_add_mod'] at h2
    rw [h2, Array.getElem?_toList]
    have h3 := get_flatK enc k d t ht
    have h4 : t % k < (enc d[t / k]).length := by rw [hk]; exact Nat.mod_lt _ k0
    rw [getElem!_pos (flatK enc k d) t (by simpa using ht), getElem!_pos d (t / k) h1, getElem!_pos (enc d[t / k]) (t % k) h4] at h3
    rw [Array.getElem?_eq_getElem (by simpa using ht), List.getElem?_eq_getElem h4, h3]
  · rw [List.getElem?_eq_none (by simp; omega), List.getElem?_eq_none (by rw [flat_length enc k hk]; simp; omega)]
set_option maxRecDepth 100000 in
theorem sortK_row {P : Program} {ρ : Ren} (L : SlLaysF0.n6 P ρ) {α : Type} (k : Nat) (aE : ∀ w, (isAgg (ρ.t 24)).run P w = .ok true w) (zE : ∀ w, (Go.sizeOf (ρ.t 24)).run P w = .ok k w) (enc : α → List Value) (hk : ∀ x, (enc x).length = k) (h1 : ∀ x, ∀ v ∈ enc x, v.oneCell' = true)
    (cf : α → α → Int) (g : Nat) (eg : ∀ args w, (callFunc g args).run P w = .ok (.enter g args) w)
    (l : List α) (hO : SWO (ltOf fun x y : { x : α // x ∈ l } => cf x.1 y.1)) (hcmp : ∀ x ∈ l, ∀ y ∈ l, ∀ W, Calls P g #[.agg (enc x).toArray, .agg (enc y).toArray] W fun e W' => e = .returned (.int .i64 (cf x y)) ∧ ∃ q os, W' = grow (W.drewN q) os)
    (hT : ∀ x ∈ l, ∀ y ∈ l, ltOf cf x y = false → ltOf cf y x = false → x = y) (hne : l ≠ []) (hl : l.length < 1000000) (t : TypeId) (blk cap : Nat) (w : World) (cur : Array Value) (hg : w.heap[blk]? = some (.cells cur t (0, 0))) (hcur : cur.toList.take (l.length * k) = l.flatMap enc) :
    Calls P (ρ.f 6) #[.slice (some ⟨blk, 0, none⟩) l.length cap, .func (.func g) #[] #[]] w fun e w' =>
      e = .returned (.tuple #[]) ∧ Chg (fun j _ => j = blk) w w' ∧ ∃ cur' : Array Value, w'.heap[blk]? = some (.cells cur' t (0, 0)) ∧ cur'.size = cur.size ∧
        cur'.toList.take (l.length * k) = (l.mergeSort (fun x y => !ltOf cf y x)).flatMap enc := by
  have : Inhabited { x : α // x ∈ l } := ⟨⟨l.head hne, List.head_mem hne⟩⟩
  let enc' : { x : α // x ∈ l } → List Value := fun x => enc x.1
  let cf' : { x : α // x ∈ l } → { x : α // x ∈ l } → Int := fun x y => cf x.1 y.1
  have hO' : SWO (ltOf cf') := hO
  have hsz : l.attach.toArray.size = l.length := by simp
  have hfl : (flatK enc' k l.attach.toArray).toList = l.flatMap enc := by
    rw [flatK_list enc' k (fun x => hk x.1)]
    show l.attach.flatMap (fun x => enc x.1) = _
    rw [List.flatMap_subtype (g := enc) (fun x h => rfl)]
    simp
  have hsc : l.length * k ≤ cur.size := by
    have := congrArg List.length hcur
    rw [flat_length enc k hk, List.length_take] at this
    have h2 := Nat.min_le_right (l.length * k) cur.toList.length
    rw [this] at h2; simpa using h2
  have hH : HoldsK enc' k w blk 0 l.attach.toArray := fun j hj => by
    have hj' : j < l.length * k := by simpa [hsz] using hj
    refine ⟨?_, unfrozen hg _⟩
    rw [cells_at hg, Nat.zero_add]
    have e1 : (flatK enc' k l.attach.toArray).toList[j]? = (cur.toList.take (l.length * k))[j]? := by rw [hfl, hcur]
    rw [List.getElem?_take, if_pos hj', Array.getElem?_toList, Array.getElem?_toList] at e1
    rw [← e1, getElem!_pos _ j (by simpa [hsz] using hj'), Array.getElem?_eq_getElem]; rfl
  have hc : CmpLays P g #[] enc' k cf' blk 0 l.attach.toArray.size w := fun m os dk _ x y => hcmp x.1 x.2 y.1 y.2 _
  have hT' : ∀ x y, ltOf cf' x y = false → ltOf cf' y x = false → x = y := fun x y a b => Subtype.ext (hT x.1 x.2 y.1 y.2 a b)
  have h := AnyQ.slices_SortFunc_total L k aE zE enc' (fun x => hk x.1) (fun x => h1 x.1) cf' hO' g #[] blk 0 cap l.attach.toArray w eg hc hH (heap_lt hg) (by omega) hT'
  rw [hsz] at h
  refine h.mono ?_
  rintro e w' ⟨rfl, n, os, rfl⟩
  refine ⟨rfl, chg_sortWorld id w blk 0 n _ os, _, heap_sortWorld id 0 n _ os hg, by simp [putCells], ?_⟩
  have hmap : (l.attach.mergeSort (fun x y => !ltOf cf' y x)).map (·.1) = l.mergeSort (fun x y => !ltOf cf y x) := by
    rw [List.map_mergeSort (f := fun x : { x : α // x ∈ l } => x.1) (r := fun x y => !ltOf cf' y x) (s := fun x y => !ltOf cf y x) (fun a _ b _ => rfl)]
    simp
  have hlen : (l.attach.mergeSort (fun x y => !ltOf cf' y x)).length = l.length := by rw [List.length_mergeSort]; simp
  rw [← hmap]
  generalize hS : l.attach.mergeSort (fun x y => !ltOf cf' y x) = S at hlen
  have hF : (flatK enc' k S.toArray).toList = (S.map (·.1)).flatMap enc := by
    rw [flatK_list enc' k (fun x => hk x.1), List.flatMap_map]
  rw [← hF]
  have hfs : (flatK enc' k S.toArray).size = l.length * k := by simp [hlen]
  refine List.ext_getElem? (fun j => ?_)
  rw [List.getElem?_take]
  by_cases hj : j < l.length * k
  · rw [if_pos hj, Array.getElem?_toList, Array.getElem?_toList]
    simp only [putCells, Array.getElem?_mapIdx, Array.getElem?_eq_getElem (show j < cur.size by omega), Option.map_some, Nat.sub_zero]
    rw [if_pos ⟨Nat.zero_le _, by rw [hfs]; omega⟩, getElem!_pos _ j (by rw [hfs]; exact hj), Array.getElem?_eq_getElem]; rfl
  · rw [if_neg hj, List.getElem?_eq_none (by simp [hlen]; omega)]
end
end Go.Proofs.YtfngdplkcppabaaGreat
namespace Go.Proofs.YtfngdplkcppabaaGreat
open Go.RowKit
section
open Go.Sort
def cmpU (u v : Upd) : Int := orI (cmpI u.sent v.sent) (cmpI u.k.id v.k.id)
theorem ltOf_cmpU (u v : Upd) : ltOf cmpU u v = decide (u.sent < v.sent ∨ u.sent = v.sent ∧ u.k.id < v.k.id) := by
  show decide (cmpU u v < 0) = _
  rw [decide_eq_decide]
  unfold cmpU orI cmpI
  repeat' split
  all_goals omega
theorem not_ltOf_cmpU (u v : Upd) : (!ltOf cmpU v u) = updLe u v := by
  rw [ltOf_cmpU, ← decide_not]
  unfold updLe
  rw [decide_eq_decide]
  omega
theorem cmpU_swo : SWO (ltOf cmpU) :=
  ⟨fun x => by rw [ltOf_cmpU]; simp, fun x y z h1 h2 => by rw [ltOf_cmpU, decide_eq_true_eq] at *; omega, fun x y z h1 h2 => by rw [ltOf_cmpU, decide_eq_false_iff_not] at *; omega⟩
end
theorem updLe_tr (a b c : Upd) (h1 : updLe a b = true) (h2 : updLe b c = true) : updLe a c = true := by
  simp only [updLe, decide_eq_true_eq] at *; omega
theorem updLe_tot (a b : Upd) : (updLe a b || updLe b a) = true := by
  simp only [updLe, Bool.or_eq_true, decide_eq_true_eq]; omega
theorem uid_inj {l : List Upd} (h : (uids l).Nodup) {a b : Upd} (ha : a ∈ l) (hb : b ∈ l) (e : a.k.id = b.k.id) : a = b := by
  induction l with
  | nil => simp at ha
  | cons c r ih =>
    have h1 : c.k.id ∉ uids r ∧ (uids r).Nodup := List.nodup_cons.1 h
    rcases List.mem_cons.1 ha with ea | ha1
    · rcases List.mem_cons.1 hb with eb | hb1
      · rw [ea, eb]
      · exact absurd (List.mem_map.2 ⟨b, hb1, by rw [← e, ea]⟩) h1.1
    · rcases List.mem_cons.1 hb with eb | hb1
      · exact absurd (List.mem_map.2 ⟨a, ha1, by rw [e, eb]⟩) h1.1
      · exact ih h1.2 ha1 hb1
theorem sort_perm {l l' : List Upd} (hp : l.Perm l') (h : (uids l').Nodup) : l.mergeSort updLe = l'.mergeSort updLe := by
  have h1 := List.pairwise_mergeSort updLe_tr updLe_tot l
  have h2 := List.pairwise_mergeSort updLe_tr updLe_tot l'
  have hp' : (l.mergeSort updLe).Perm (l'.mergeSort updLe) := ((List.mergeSort_perm l _).trans hp).trans (List.mergeSort_perm l' _).symm
  refine hp'.eq_of_pairwise (fun a b ha hb h1 h2 => ?_) h1 h2
  have ha' : a ∈ l' := hp.mem_iff.1 ((List.mergeSort_perm l _).mem_iff.1 ha)
  have hb' : b ∈ l' := (List.mergeSort_perm l' _).mem_iff.1 hb
  simp only [updLe, decide_eq_true_eq] at h1 h2
  exact uid_inj h ha' hb' (by omega)
def decQ : Value → Upd
  | .agg #[.int _ a, .int _ b, .int _ c, .int _ d] => ⟨⟨a, b, c⟩, d⟩
  | _ => ⟨⟨0, 0, 0⟩, 0⟩
theorem perm_of_pairs {ps : List (Int × Upd)} {l : List Upd} (h : (ps.map (fun p => (p.1, encQ p.2))).Perm (qPairs l)) : (ps.map (·.2)).Perm l := by
  have h1 := h.map (fun p => decQ p.2)
  have e1 : (ps.map (fun p => (p.1, encQ p.2))).map (fun p => decQ p.2) = ps.map (·.2) := by
    rw [List.map_map]
    exact List.map_congr_left (fun p _ => rfl)
  have e2 : (qPairs l).map (fun p => decQ p.2) = l := by
    unfold qPairs
    rw [List.map_map]
    have : ((fun p : Int × Value => decQ p.2) ∘ fun u : Upd => (u.k.id, u.v)) = id := rfl
    rw [this, List.map_id]
  rw [e1, e2] at h1
  exact h1
set_option maxRecDepth 100000 in
set_option maxHeartbeats 2000000 in
theorem collectQ_any (b : Nat) (L : List (Int × Value)) (hE : ∀ p ∈ L, ∃ y : Upd, p.2 = encQ y) (Bm : Nat) (w : World) (hl : L.length < 1000000) (hBm : Bm < w.heap.size) (hm : w.cell? ⟨Bm, 0, none⟩ = some (.map (some b))) (hM : MapAt Tryz.prog 3 w b L) :
    Calls Tryz.prog 82 #[.func (.func 84) #[] #[.pointer (some ⟨Bm, 0, none⟩)]] w fun e w' =>
      ∃ (v : Value) (ps : List (Int × Upd)), e = .returned v ∧ (ps.map (fun p => (p.1, encQ p.2))).Perm L ∧ w'.ownsRow w.heap.size 130 4 v ps.length ((ps.map (·.2)).flatMap cellsQ) ∧ (v = .slice none 0 0 ↔ ps = []) ∧ Below w.heap.size w w' := by
  have HCOL := Lib.hid ((callsIn_wide (n := 3)).1 (collQ 3 (by omega) b L hE Bm w hl hBm hm hM))
  clear hM hm
  go_enter Tryz.func82, Tryz.ntmps82
  go_wp2_with (go_at_call 96; refine HCOL.out.mono ?_; rintro e W ⟨v, ps, rfl, hp, hrow, hnil, hb⟩)
  go_ret
  exact ⟨v, ps, rfl, hp, hrow, hnil, hb⟩
set_option maxRecDepth 100000 in
set_option maxHeartbeats 2000000 in
theorem sortedQ_any (l : List Upd) (b Bm : Nat) (w : World) (hnd : (uids l).Nodup) (hl : l.length < 1000000) (hBm : Bm < w.heap.size) (hm : w.cell? ⟨Bm, 0, none⟩ = some (.map (some b))) (hM : MapAt Tryz.prog 3 w b (qPairs l)) :
    Calls Tryz.prog 74 #[.func (.func 84) #[] #[.pointer (some ⟨Bm, 0, none⟩)], .func (.func 76) #[] #[]] w fun e w' =>
      ∃ v, e = .returned v ∧ w'.ownsRow w.heap.size 130 4 v l.length ((l.mergeSort updLe).flatMap cellsQ) ∧ Below w.heap.size w w' := by
  have hcol := collectQ_any b _ (fun p hp => by obtain ⟨u, _, rfl⟩ := List.mem_map.1 hp; exact ⟨u, rfl⟩) Bm w (by rw [qPairs_len]; exact hl) hBm hm hM
  have HCOL := Lib.hid hcol
  clear hcol hM hm
  go_enter Tryz.func74, Tryz.ntmps74
  go_wp2_with (first
    | (go_at_call 82; refine HCOL.out.mono ?_; rintro e W ⟨v, ps, rfl, hp, hrow, hnil, hb⟩))
  have hp1 := perm_of_pairs hp
  have hlen : ps.length = l.length := by simpa using hp1.length_eq
  rcases hrow.2 with ⟨rfl, hz⟩ | ⟨g, cap, cur, rfl, hbase, hgb, hr1, hr2, hr3, hr4⟩
  · have his : l = [] := List.eq_nil_of_length_eq_zero (by omega)
    subst his
    have hS := AnyF.slices_SortFunc_none (P := Tryz.prog) (ρ := laySortQ_ren) laySortQ none 0 (.func (.func 76) #[] #[]) W
    change Calls Tryz.prog 83 _ _ _ at hS
    go_wp2_with (go_at_call 83; refine hS.mono ?_; rintro e w' ⟨rfl, rfl⟩)
    go_ret
    have hps : ps = [] := List.eq_nil_of_length_eq_zero (by simpa using hlen)
    subst hps
    exact ⟨_, rfl, by simpa using hrow, hb⟩
  · have hne : ps ≠ [] := fun e => absurd (hnil.2 e) (by simp)
    have eg : ∀ args w, (callFunc 76 args).run Tryz.prog w = .ok (.enter 76 args) w := enters_of Tryz.func76 (by kernel_rfl) rfl
    have hin : ∀ u ∈ ps.map (·.2), u ∈ l := fun u hu => hp1.mem_iff.1 hu
    have hS := sortK_row laySortQ 4 (fun w => by kernel_rfl) (fun w => by kernel_rfl) cellsQ (fun _ => rfl) (fun x v hv => by simp only [cellsQ, List.mem_cons, List.not_mem_nil, or_false] at hv; rcases hv with rfl | rfl | rfl | rfl <;> rfl) cmpU 76 eg (ps.map (·.2)) ⟨fun x => cmpU_swo.irrefl x.1, fun x y z => cmpU_swo.trans x.1 y.1 z.1, fun x y z => cmpU_swo.ntrans x.1 y.1 z.1⟩
      (fun x _ y _ W => (cmpQ_any x y W).mono fun e W' h => h)
      (fun x hx y hy h1 h2 => by
        rw [ltOf_cmpU, decide_eq_false_iff_not] at h1 h2
        exact uid_inj hnd (hin x hx) (hin y hy) (by omega)) (by simpa using hne) (by simp; omega) 130 g cap W cur hgb (by simpa using hr4)
    change Calls Tryz.prog 83 _ _ _ at hS
    have hfun : (fun x y : Upd => !ltOf cmpU y x) = updLe := by funext x y; exact not_ltOf_cmpU x y
    rw [hfun, sort_perm hp1 hnd, List.length_map] at hS
    go_wp2_with (go_at_call 83; refine hS.mono ?_; rintro e w' ⟨rfl, hC, cur', hg', hs', hcur'⟩)
    go_ret
    have hne' : l ≠ [] := fun e => hne (List.eq_nil_of_length_eq_zero (by rw [hlen, e]; rfl))
    refine ⟨_, rfl, ⟨by rw [flat_length cellsQ 4 (fun _ => rfl), List.length_mergeSort], .inr ⟨g, cap, cur', by first | rfl | rw [hlen], hbase, hg', by omega, hr2, by omega, ?_⟩⟩, hb.trans (hC.below hb.size (fun k _ hk => by have hk : k = g := hk; omega))⟩
    rw [← hlen]
    exact hcur'
end Go.Proofs.YtfngdplkcppabaaGreat
namespace Go.Proofs.YtfngdplkcppabaaGreat
open Go.RowKit
section
open Go.Shelf Go.Lib Go.Sort
set_option maxRecDepth 100000 in
theorem sortT_any (l : List Int) (mem : Int → Nat) (blk cap : Nat) (w : World) (cur : Array Value) (hg : w.heap[blk]? = some (.cells cur 83 (0, 0))) (hcur : ∀ (j : Nat) (i : Int), l[j]? = some i → cur[j]? = some (encT (mem i)))
    (hne : l ≠ []) (hl : l.length < 1000000) (hm : ∀ i ∈ l, mem i ≠ blk ∧ w.cell? ⟨mem i, 0, none⟩ = some (.int .i64 i)) :
    Calls Tryz.prog 64 #[.slice (some ⟨blk, 0, none⟩) l.length cap, .func (.func 49) #[] #[]] w fun e w' =>
      e = .returned (.tuple #[]) ∧ Chg (fun j _ => j = blk) w w' ∧ ∃ cur' : Array Value, w'.heap[blk]? = some (.cells cur' 83 (0, 0)) ∧ cur'.size = cur.size ∧
        ∀ (j : Nat) (i : Int), (l.mergeSort (fun x y => !decide (y < x)))[j]? = some i → cur'[j]? = some (encT (mem i)) := by
  have : Inhabited { i : Int // i ∈ l } := ⟨⟨l.head hne, List.head_mem hne⟩⟩
  let enc : { i : Int // i ∈ l } → Value := fun x => encT (mem x.1)
  have hsz : l.attach.toArray.size = l.length := by simp
  have hat : ∀ j (hj : j < l.length), l.attach.toArray[j]!.1 = l[j] := fun j hj => by
    rw [getElem!_pos _ j (by simpa using hj)]; simp
  have hin : ∀ j, j < l.length → cur[j]? = some (enc l.attach.toArray[j]!) := fun j hj => by
    show _ = some (encT (mem l.attach.toArray[j]!.1))
    rw [hat j hj]
    exact hcur j _ (List.getElem?_eq_getElem hj)
  have hH : Holds enc w blk 0 l.attach.toArray := fun j hj => ⟨by rw [cells_at hg, Nat.zero_add]; exact hin j (by omega), unfrozen hg _⟩
  have eg : ∀ args w, (callFunc 49 args).run Tryz.prog w = .ok (.enter 49 args) w := enters_of Tryz.func49 (by kernel_rfl) rfl
  have hcmp : CmpLays1 Tryz.prog 49 #[] enc (fun x y => cmpI x.1 y.1) blk 0 l.attach.toArray.size w := fun m os dk _ x y => by
    have hc := chg_sortWorld enc w blk 0 m dk os
    have hx : ∀ z : { i : Int // i ∈ l }, (sortWorld enc w blk 0 m dk os).cell? ⟨mem z.1, 0, none⟩ = some (.int .i64 z.1) := fun z => by
      obtain ⟨h1, h2⟩ := hm z.1 z.2
      have hlt := World.block_lt_of_cell? _ _ h2
      have := apart_of_chg hc (mem z.1) h1 hlt
      unfold World.cell? at h2 ⊢
      rw [this]; exact h2
    refine (cmpT_any (mem x.1) (mem y.1) x.1 y.1 _ (hx x) (hx y)).mono ?_
    rintro e w' ⟨rfl, q, rfl⟩
    exact ⟨rfl, q, #[], by simp⟩
  have hT : ∀ x y : { i : Int // i ∈ l }, (ltOf fun x y : { i : Int // i ∈ l } => cmpI x.1 y.1) x y = false → (ltOf fun x y : { i : Int // i ∈ l } => cmpI x.1 y.1) y x = false → x = y := fun x y h1 h2 => by
    rw [ltOf_cmpI (fun x : { i : Int // i ∈ l } => x.1), decide_eq_false_iff_not] at h1 h2
    exact Subtype.ext (by omega)
  have h := Any.slices_SortFunc_total laySortT enc (fun _ => rfl) (fun x y : { i : Int // i ∈ l } => cmpI x.1 y.1) (cmpI_swo fun x : { i : Int // i ∈ l } => x.1) 49 #[] blk 0 cap l.attach.toArray w eg hcmp hH (heap_lt hg) (by omega) hT
  rw [hsz] at h
  change Calls Tryz.prog 64 _ _ _ at h
  refine h.mono ?_
  rintro e w' ⟨rfl, n, os, rfl⟩
  refine ⟨rfl, chg_sortWorld _ _ _ _ _ _ _, _, heap_sortWorld _ _ _ _ _ hg, by simp [putCells], fun j i hj => ?_⟩
  have hmap : (l.attach.mergeSort (fun x y => !(ltOf fun x y : { i : Int // i ∈ l } => cmpI x.1 y.1) y x)).map (·.1) = l.mergeSort (fun x y => !decide (y < x)) := by
    rw [List.map_mergeSort (s := fun x y => !decide (y < x)) (fun a _ b _ => by rw [ltOf_cmpI (fun x : { i : Int // i ∈ l } => x.1)])]
    simp
  rw [← hmap] at hj
  have hlen : (l.attach.mergeSort (fun x y => !(ltOf fun x y : { i : Int // i ∈ l } => cmpI x.1 y.1) y x)).length = l.length := by rw [List.length_mergeSort]; simp
  generalize l.attach.mergeSort (fun x y => !(ltOf fun x y : { i : Int // i ∈ l } => cmpI x.1 y.1) y x) = S at hj hlen ⊢
  have hjS : j < S.length := by
    rcases Nat.lt_or_ge j S.length with h' | h'
    · exact h'
    · rw [List.getElem?_eq_none (by simpa using h')] at hj; cases hj
  have hjl : j < l.length := by omega
  have hjc : j < cur.size := by
    rcases Nat.lt_or_ge j cur.size with h' | h'
    · exact h'
    · have := hin j hjl; rw [Array.getElem?_eq_none h'] at this; cases this
  rw [List.getElem?_map, List.getElem?_eq_getElem hjS] at hj
  simp only [Option.map_some, Option.some.injEq] at hj
  subst hj
  simp only [putCells, Array.getElem?_mapIdx, Array.getElem?_eq_getElem hjc, Option.map_some, Option.some.injEq, Nat.sub_zero]
  rw [if_pos ⟨by omega, by simp; omega⟩]
  show encT (mem (S.toArray[j]!).1) = _
  rw [getElem!_pos S.toArray j (by simpa using hjS)]
  simp
end
end Go.Proofs.YtfngdplkcppabaaGreat
