/-
  gossiplaw: the script's World; hold.
-/
import Derived.Test.YtfngdplkcppabaaGreatDoorSpare
import Derived.Test.YtfngdplkcppabaaGreatDoorSB
import Derived.Maps.AppendAt
import Derived.Laws.CopyRow
namespace Go.Proofs.YtfngdplkcppabaaGreatDoor
open Go.RowKit

theorem KeysAt.cells {w : World} {a : Option Addr} {l : List K} (h : KeysAt w a l) : CellsAt w a (keyCells l) := by
  intro j v hj
  have hlt : j < (keyCells l).length := by
    rcases Nat.lt_or_ge j (keyCells l).length with h' | h'
    · exact h'
    · rw [List.getElem?_eq_none h'] at hj; cases hj
  rw [keyCells_length] at hlt
  have hi : j / 3 < l.length := by omega
  obtain ⟨b, off, e, hb, c0, c1, c2⟩ := h (j / 3) l[j / 3] (List.getElem?_eq_getElem hi)
  obtain ⟨k0, k1, k2⟩ := keyCells_at l (j / 3) l[j / 3] (List.getElem?_eq_getElem hi)
  refine ⟨b, off, e, hb, ?_⟩
  have hj3 : j = j / 3 * 3 ∨ j = j / 3 * 3 + 1 ∨ j = j / 3 * 3 + 2 := by omega
  rcases hj3 with e' | e' | e'
  · rw [e'] at hj ⊢; rw [k0] at hj; cases hj; exact c0
  · rw [e'] at hj ⊢; rw [k1] at hj; cases hj; exact c1
  · rw [e'] at hj ⊢; rw [k2] at hj; cases hj; exact c2
theorem CellsAt.keys {w : World} {a : Option Addr} {l : List K} (h : CellsAt w a (keyCells l)) : KeysAt w a l := by
  intro i k hk
  obtain ⟨k0, k1, k2⟩ := keyCells_at l i k hk
  obtain ⟨b, off, e, hb, c0⟩ := h _ _ k0
  obtain ⟨b1, off1, e1, _, c1⟩ := h _ _ k1
  obtain ⟨b2, off2, e2, _, c2⟩ := h _ _ k2
  rw [e] at e1 e2
  cases e1
  cases e2
  exact ⟨b, off, e, hb, c0, c1, c2⟩
/-- copy(c, l), c fresh and as long. -/
theorem run_copy_cells {P : Program} {T e : TypeId} {s : Nat} (hu : P.underlying T = some (.slice e)) (hs : (P.info? e).map (·.size) = some s) (ty : TypeId) (w : World) (g n cap cap' : Nat) (a : Option Addr) (cs : List Value) (cur : Array Value)
    (hg : w.heap[g]? = some (.cells cur e (0, 0))) (hc : cur.size = n * s) (hn : cs.length = n * s) (ha : CellsAt w a cs) (h1 : ∀ v ∈ cs, v.oneCell' = true) :
    ∃ w', (Builtin.copy_ #[T, T] ty #[.slice (some ⟨g, 0, none⟩) n cap, .slice a n cap']).run P w = .ok (goInt n) w' ∧ w'.heap[g]? = some (.cells cs.toArray e (0, 0)) ∧ Chg (fun k _ => k = g) w w' ∧ w'.heap.size = w.heap.size := by
  have hload : (Builtin.firstCells s n (.slice a n cap')).run P w = .ok cs.toArray w := by
    cases a with
    | none =>
      have : cs = [] := by
        cases cs with
        | nil => rfl
        | cons v r => obtain ⟨b, off, e', _⟩ := ha 0 v rfl; cases e'
      subst this
      exact run_firstCells_none (P := P) w s n n cap'
    | some p =>
      by_cases h0 : cs = []
      · subst h0
        exact run_firstCells_some (P := P) w s n p n cap' [] hn (fun j v h => by simp at h)
      · refine run_firstCells_some (P := P) w s n p n cap' cs hn (fun j v h => ?_)
        obtain ⟨b, off, e', _, hcell⟩ := ha j v h
        cases e'
        have ea : (⟨b, off, none⟩ : Addr).add j = ⟨b, off + j, none⟩ := by unfold Addr.add; split <;> simp_all
        rw [ea]; exact hcell
  have hst := run_storeCells_at P g 0 e cs 0 cur w hg (by omega) h1
  have hfull : (cur.toList.take (0 + 0) ++ cs ++ cur.toList.drop (0 + 0 + cs.length)).toArray = cs.toArray := by
    rw [List.drop_eq_nil_of_le (by simp; omega)]; simp
  rw [hfull] at hst
  refine ⟨_, ?_, setRow_heap w g cur cs.toArray e _ hg, ⟨rfl, rfl, rfl, by simp [World.setRow], fun k o hk hne => by rw [setRow_other w g k _ hne]; exact hk⟩, by simp [World.setRow]⟩
  cases hq : P.info? e with
  | none => simp [hq] at hs
  | some i =>
    have hi : i.size = s := by simpa [hq] using hs
    simp [Builtin.copy_, run_underlying hu, Builtin.lenOf, sizeOf, typeInfo, hq, hi, hload, hst]

theorem keyCells_one (l : List K) : ∀ v ∈ keyCells l, v.oneCell' = true := by
  intro v hv
  simp only [keyCells, List.mem_flatMap, List.mem_cons, List.not_mem_nil, or_false] at hv
  obtain ⟨k, _, rfl | rfl | rfl⟩ := hv <;> rfl
theorem info_keys : (Tryz.prog.info? 46).map (fun i => (i.zero, i.size, i.bytes)) = some (some (.slice none 0 0), 1, 24) := by kernel_rfl

theorem size_key : (Tryz.prog.info? 76).map (·.size) = some 3 := by kernel_rfl
/-- make([]api.Key, n), with its size. -/
theorem make_keys2 (n : Nat) (hn : n ≤ 2000000) : ∃ cs : Array Value, (∀ W : World, (Instr.makeSlice 46 (.int .i64 (n : Int)) (.int .i64 (n : Int))).run Tryz.prog W = .ok (.slice (some ⟨W.heap.size, 0, none⟩) n n) (W.alloc (.cells cs 76))) ∧ cs.size = n * 3 := by
  obtain ⟨i0, hi, hz0, hz1, hz2⟩ := info_parts info_key
  refine ⟨madeCells (Value.agg #[.int .i64 0, .int .i64 0, .int .i64 0]).cells (n * 3), fun W => ?_, size_madeCells _ _⟩
  have hr := run_make (P := Tryz.prog) W 46 76 i0 _ Tryz.underlying46 hi hz0 .i64 .i64 n n (by omega) (Int.le_refl _) (by rw [hz2]; omega) (by omega)
  simp only [Int.toNat_natCast, hz1] at hr
  exact hr

/-- The script's World lies in block b. -/
abbrev WB (w : World) (b : Nat) (f : Nat → Value) : Prop := SB 41 21 w b f

set_option maxRecDepth 100000 in
set_option maxHeartbeats 1000000 in
theorem hold_any (b : Nat) (f : Nat → Value) (lv wv : Value) (xs ys : List Value) (nl : Nat) (L : List K) (a : Option Addr) (n cap B0 : Nat) (w : World)
    (hW : WB w b f) (h16 : f 16 = lv) (h17 : f 17 = wv) (hl : w.ownsRow B0 46 1 lv nl xs) (hw : w.ownsRow B0 46 1 wv nl ys)
    (hne : ∀ g, lv.ownBlock = some g → wv.ownBlock ≠ some g) (hnl : nl ≤ 1000000) (hL : L.length = n) (hn : n ≤ 1000000) (hB : B0 ≤ w.heap.size) (hk : KeysAt w a L) :
    Calls Tryz.prog 31 #[.pointer (some ⟨b, 0, none⟩), .slice a n cap] w fun e w' =>
      ∃ lv' wv' g c', e = .returned (.tuple #[]) ∧ WB w' b (upd (upd f 16 lv') 17 wv') ∧ w'.ownsRow B0 46 1 lv' (nl + 1) (xs ++ [.slice a n cap]) ∧ w'.ownsRow B0 46 1 wv' (nl + 1) (ys ++ [.slice (some ⟨g, 0, none⟩) n c']) ∧
        (∀ g, lv'.ownBlock = some g → wv'.ownBlock ≠ some g) ∧ w.heap.size ≤ g ∧ w'.heap[g]? = some (.cells (keyCells L).toArray 76 (0, 0)) ∧
        Chg (fun k _ => k = b ∨ lv.ownBlock = some k ∨ wv.ownBlock = some k) w w' ∧
        (∀ g, lv'.ownBlock = some g → lv.ownBlock = some g ∨ w.heap.size ≤ g) ∧ (∀ g, wv'.ownBlock = some g → wv.ownBlock = some g ∨ w.heap.size ≤ g) := by
  have hlt := hW.lt
  obtain ⟨cs, hmk, hcs⟩ := make_keys2 n (by omega)
  obtain ⟨w2, hcp, hg2, hch2, hsz2⟩ := run_copy_cells (P := Tryz.prog) Tryz.underlying46 size_key 3 (w.alloc (.cells cs 76)) w.heap.size n n cap a (keyCells L) cs (heap_alloc_eq w _) hcs
    (by rw [keyCells_length]; omega) (hk.below ((Below.refl _ w).alloc (Nat.le_refl _) _)).cells (keyCells_one L)
  rw [World.size_alloc] at hsz2
  have hC2 : Chg (fun k _ => w.heap.size ≤ k) w w2 := ((Chg.refl _ w).alloc _).trans (hch2.mono (fun k o _ e => by omega))
  have HCS := Lib.hid hcs
  have HG2 := Lib.hid hg2
  have HC2 := Lib.hid hC2
  have HSZ2 := Lib.hid hsz2
  have HW := Lib.hid hW
  have HL := Lib.hid hl
  have HX := Lib.hid hw
  have HK := Lib.hid hk
  have HN := Lib.hid hL
  have H16 := Lib.hid h16
  have H17 := Lib.hid h17
  have HNE := Lib.hid hne
  clear hcs hg2 hC2 hch2 hsz2 hW hl hw hk hL h16 h17 hne
  have hW2 : WB w2 b f := HW.out.chg HC2.out (fun _ e => by omega)
  have hL2 : w2.ownsRow B0 46 1 lv nl xs := own_chg HL.out HC2.out (fun g o e => by have := (HL.out.lt g e).2; omega)
  have hX2 : w2.ownsRow B0 46 1 wv nl ys := own_chg HX.out HC2.out (fun g o e => by have := (HX.out.lt g e).2; omega)
  have c16 : w2.cell? ⟨b, 16, none⟩ = some lv := by rw [← H16.out]; exact hW2.cell (by omega)
  have fr2 := hW2.free 16
  have hnew := cells_new w2 [.slice a n cap] 46 (n := w2.heap.size) rfl
  have k3 : nl + 1 ≤ maxLen := by unfold maxLen; omega
  have K3 := Lib.hid k3
  have HW2 := Lib.hid hW2
  have HL2 := Lib.hid (hL2.alloc (.cells #[.slice a n cap] 46))
  have HX2 := Lib.hid hX2
  have HNEW := Lib.hid hnew
  obtain ⟨i0, hi, hz0, hz1, hz2⟩ := info_parts info_keys
  have hlt2 : b < w2.heap.size := hW2.lt
  have hBw : B0 ≤ w2.heap.size := by have := HSZ2.out; omega
  clear hW2 hL2 hX2 hnew k3
  go_enter Tryz.func31, Tryz.ntmps31
  go_wp2_with (at_builtin; refine wpList_append_own_at _ rfl _ _ 38 rfl B0 46 i0 _ 1 24 Tryz.underlying38 hi hz0 hz1 hz2 rfl (by decide) lv nl _ rfl HL2.out ⟨w2.heap.size, 0, none⟩ 1 1 _ rfl rfl HNEW.out (by simp [Value.oneCell']) K3.out (by omega) (by simp; omega) ?_)
  intro lv' w3 hl3 hg3 _ hat3
  obtain ⟨la, lc, rfl⟩ := ownsRow_sl hl3
  have hWa := HW2.out.alloc (.cells #[.slice a n cap] 46)
  have hn3 : lv.ownBlock ≠ some b := hWa.neOwn HL2.out (by decide)
  have hn4 : wv.ownBlock ≠ some b := HW2.out.neOwn HX2.out (by decide)
  have hW3 := hWa.grown hg3 hn3
  have hX3 : w3.ownsRow B0 46 1 wv nl ys := (HX2.out.alloc (.cells #[.slice a n cap] 46)).kept hg3 (by
    cases hb : wv.ownBlock with
    | none => exact .inl rfl
    | some g => exact .inr (fun e => HNE.out g e.symm hb))
  have hd3 : ∀ g, (Value.slice la (nl + 1) lc).ownBlock = some g → wv.ownBlock ≠ some g := fun g e e' => by
    rcases hat3 with h | h
    · exact HNE.out g (h ▸ e) e'
    · rw [h] at e
      simp only [Option.some.injEq] at e
      have := (HX2.out.lt g e').2
      omega
  have hC3 : Chg (fun k _ => k = b ∨ lv.ownBlock = some k ∨ wv.ownBlock = some k) w w3 :=
    (HC2.out.mono (fun k o h e => by omega)).trans (((Chg.refl _ w2).alloc _).grown hg3 (fun k o e _ => .inr (.inl e)))
  have hgg3 : w3.heap[w.heap.size]? = some (.cells (keyCells L).toArray 76 (0, 0)) := by
    rw [hg3.block _ (by have := HSZ2.out; simp; omega) (fun e => by have := (HL.out.lt _ e.symm).2; omega)]
    exact heap_old _ HG2.out
  have hsz3 : w2.heap.size < w3.heap.size := by have := hg3.size; simp at this; omega
  obtain ⟨w4, hw4⟩ : ∃ w4, w3.setCell ⟨b, 16, none⟩ (.slice la (nl + 1) lc) = w4 := ⟨_, rfl⟩
  have hW4 : WB w4 b (upd f 16 (.slice la (nl + 1) lc)) := by rw [← hw4]; exact hW3.set (by omega) _
  have hX4 : w4.ownsRow B0 46 1 wv nl ys := by rw [← hw4]; exact own_chg hX3 ((Chg.refl (fun k _ => k = b) w3).setCell _ (fun _ _ => rfl)) (fun g o e h => hn4 (h ▸ e))
  have hl4 : w4.ownsRow B0 46 1 (.slice la (nl + 1) lc) (nl + 1) (xs ++ [.slice a n cap]) := by
    rw [← hw4]; exact own_chg hl3 ((Chg.refl (fun k _ => k = b) w3).setCell _ (fun _ _ => rfl)) (fun g o e h => hW3.neOwn hl3 (by decide) (h ▸ e))
  have hC4 : Chg (fun k _ => k = b ∨ lv.ownBlock = some k ∨ wv.ownBlock = some k) w w4 := by rw [← hw4]; exact hC3.setCell _ (fun _ _ => .inl rfl)
  have hgg4 : w4.heap[w.heap.size]? = some (.cells (keyCells L).toArray 76 (0, 0)) := by
    rw [← hw4, heap_setCell_ne _ _ _ _ _ (by omega)]; exact hgg3
  have hsz4 : w2.heap.size < w4.heap.size := by rw [← hw4]; simpa using hsz3
  have c16 := hW3.cell (i := 16) (by omega)
  have f16 := hW3.free 16
  have c17 : w3.cell? ⟨b, 17, none⟩ = some wv := by rw [← H17.out]; exact hW3.cell (by omega)
  have hnew := cells_new w4 [.slice (some ⟨w.heap.size, 0, none⟩) n n] 46 (n := w3.heap.size) (by rw [← hw4]; simp)
  have HW4 := Lib.hid hW4
  have HX4 := Lib.hid (hX4.alloc (.cells #[.slice (some ⟨w.heap.size, 0, none⟩) n n] 46))
  have HL4 := Lib.hid hl4
  have HC4 := Lib.hid hC4
  have HGG4 := Lib.hid hgg4
  have HNEW4 := Lib.hid hnew
  have HD3 := Lib.hid hd3
  have HA3 := Lib.hid hat3
  have HW4e := Lib.hid hw4
  have hBw4 : B0 ≤ w4.heap.size := by omega
  clear hl3 hg3 hat3 hWa hW3 hX3 hd3 hC3 hgg3 hW4 hX4 hl4 hC4 hgg4 hnew hw4
  go_wp2_with (at_builtin; rw [HW4e.out]; refine wpList_append_own_at _ rfl _ _ 38 rfl B0 46 i0 _ 1 24 Tryz.underlying38 hi hz0 hz1 hz2 rfl (by decide) wv nl _ rfl HX4.out ⟨w3.heap.size, 0, none⟩ 1 1 _ rfl rfl HNEW4.out (by simp [Value.oneCell']) K3.out (by omega) (by simp; omega) ?_)
  intro wv' w5 hl5 hg5 _ hat5
  obtain ⟨wa, wc, rfl⟩ := ownsRow_sl hl5
  have hWa := HW4.out.alloc (.cells #[.slice (some ⟨w.heap.size, 0, none⟩) n n] 46)
  have hW5 := hWa.grown hg5 hn4
  have hl5' : w5.ownsRow B0 46 1 (.slice la (nl + 1) lc) (nl + 1) (xs ++ [.slice a n cap]) := (HL4.out.alloc (.cells #[.slice (some ⟨w.heap.size, 0, none⟩) n n] 46)).kept hg5 (by
    cases hb : (Value.slice la (nl + 1) lc).ownBlock with
    | none => exact .inl rfl
    | some g => exact .inr (fun e => HD3.out g hb e.symm))
  have hd5 : ∀ g, (Value.slice la (nl + 1) lc).ownBlock = some g → (Value.slice wa (nl + 1) wc).ownBlock ≠ some g := fun g e e' => by
    rcases hat5 with h | h
    · exact HD3.out g e (h ▸ e')
    · rw [h] at e'
      simp only [Option.some.injEq] at e'
      have := (HL4.out.lt g e).2
      omega
  have hC5 : Chg (fun k _ => k = b ∨ lv.ownBlock = some k ∨ wv.ownBlock = some k) w w5 := (HC4.out.alloc _).grown hg5 (fun k o e _ => .inr (.inr e))
  have hgg5 : w5.heap[w.heap.size]? = some (.cells (keyCells L).toArray 76 (0, 0)) := by
    rw [hg5.block _ (by have := HSZ2.out; simp; omega) (fun e => by have := (HX.out.lt _ e.symm).2; omega)]
    exact heap_old _ HGG4.out
  have f17 := hW5.free 17
  have c17' := hW5.cell (i := 17) (by omega)
  have hne5 : ∀ g, (Value.slice la (nl + 1) lc).ownBlock = some g → b ≠ g := fun g e h => hW5.neOwn hl5' (by decide) (h ▸ e)
  have hne6 : ∀ g, (Value.slice wa (nl + 1) wc).ownBlock = some g → b ≠ g := fun g e h => hW5.neOwn hl5 (by decide) (h ▸ e)
  have HW5 := Lib.hid (hW5.set (i := 17) (by omega) (.slice wa (nl + 1) wc))
  have HLL := Lib.hid (own_chg hl5' ((Chg.refl (fun k _ => k = b) w5).setCell (p := ⟨b, 17, none⟩) (.slice wa (nl + 1) wc) (fun _ _ => rfl)) (fun g o e h => hne5 g e h.symm))
  have HXX := Lib.hid (own_chg hl5 ((Chg.refl (fun k _ => k = b) w5).setCell (p := ⟨b, 17, none⟩) (.slice wa (nl + 1) wc) (fun _ _ => rfl)) (fun g o e h => hne6 g e h.symm))
  have HD5 := Lib.hid hd5
  have HA5 := Lib.hid hat5
  have HC5 := Lib.hid (hC5.setCell (p := ⟨b, 17, none⟩) (.slice wa (nl + 1) wc) (fun _ _ => .inl rfl))
  have HGG5 := Lib.hid hgg5
  clear hl5 hg5 hat5 hWa hW5 hl5' hd5 hC5 hgg5 hne5 hne6
  go_wp2
  go_end0
  exact ⟨_, _, w.heap.size, n, rfl, HW5.out, HLL.out, HXX.out, HD5.out, Nat.le_refl _, by rw [heap_setCell_ne _ _ _ _ _ (by omega)]; exact HGG5.out, HC5.out,
    fun g e => HA3.out.imp (fun h => h.symm.trans e) (fun h => by have e2 := h.symm.trans e; have := HSZ2.out; simp at e2; omega),
    fun g e => HA5.out.imp (fun h => h.symm.trans e) (fun h => by have e2 := h.symm.trans e; have := HSZ2.out; simp at e2; omega)⟩
end Go.Proofs.YtfngdplkcppabaaGreatDoor
