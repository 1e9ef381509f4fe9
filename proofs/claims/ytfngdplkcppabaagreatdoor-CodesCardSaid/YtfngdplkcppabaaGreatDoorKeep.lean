/-
  gossiplaw: keep.
-/
import Derived.Test.YtfngdplkcppabaaGreatDoorHold
import Derived.Test.YtfngdplkcppabaaGreatDoorApp
namespace Go.Proofs.YtfngdplkcppabaaGreatDoor
open Go.RowKit

theorem own_setCell {w : World} {B e s n g cap : Nat} {xs : List Value} (h : w.ownsRow B e s (.slice (some ⟨g, 0, none⟩) n cap) n xs) (j : Nat) (u : Value) :
    (w.setCell ⟨g, j, none⟩ u).ownsRow B e s (.slice (some ⟨g, 0, none⟩) n cap) n (xs.set j u) := by
  refine ⟨by rw [List.length_set]; exact h.1, ?_⟩
  rcases h.2 with ⟨e', _⟩ | ⟨g', cap', cur, e', hB, hg, hc, hm, hs, ht⟩
  · cases e'
  · simp only [Value.slice.injEq, Option.some.injEq, Addr.mk.injEq] at e'
    obtain ⟨⟨rfl, _⟩, _, rfl⟩ := e'
    refine .inr ⟨g, cap, _, rfl, hB, heap_setCell_eq hg, hc, hm, by rw [Array.size_setIfInBounds]; exact hs, ?_⟩
    rw [Array.toList_setIfInBounds, List.take_set, ht]
theorem keyCells_set (L : List K) (i : Nat) (k : K) (hi : i < L.length) : (((keyCells L).set (i * 3) (.int .i64 k.id)).set (i * 3 + 1) (.int .i64 k.inc)).set (i * 3 + 2) (.int .i64 k.st) = keyCells (L.set i k) := by
  induction L generalizing i with
  | nil => simp at hi
  | cons a L ih =>
    cases i with
    | zero => simp [keyCells]
    | succ i =>
      have e : ∀ (a : K) (L : List K), keyCells (a :: L) = .int .i64 a.id :: .int .i64 a.inc :: .int .i64 a.st :: keyCells L := fun a L => rfl
      rw [List.set_cons_succ, e, e, ← ih i (by simpa using hi)]
      rw [show (i + 1) * 3 = i * 3 + 1 + 1 + 1 by omega]
      simp only [List.set_cons_succ]
theorem own_setKey {w : World} {B e n g cap : Nat} {L : List K} (h : w.ownsRow B e 3 (.slice (some ⟨g, 0, none⟩) n cap) n (keyCells L)) {i : Nat} (hi : i < n) (k : K) :
    (((w.setCell ⟨g, i * 3, none⟩ (.int .i64 k.id)).setCell ⟨g, i * 3 + 1, none⟩ (.int .i64 k.inc)).setCell ⟨g, i * 3 + 2, none⟩ (.int .i64 k.st)).ownsRow B e 3 (.slice (some ⟨g, 0, none⟩) n cap) n (keyCells (L.set i k)) := by
  have hlen : L.length = n := by have := h.1; rw [keyCells_length] at this; omega
  rw [← keyCells_set L i k (by omega)]
  exact own_setCell (own_setCell (own_setCell h _ _) _ _) _ _

/-- Keys in a block of their own type, below B. -/
def KeyIn (B : Nat) (w : World) (a : Option Addr) (L : List K) : Prop :=
  CellsAt w a (keyCells L) ∧ ∀ b off, a = some ⟨b, off, none⟩ → L ≠ [] → b < B ∧ ∃ cs f, w.heap[b]? = some (.cells cs 76 f)
/-- A list that is held, and what it must read. -/
def HeldK (B : Nat) (w : World) (v u : Value) : Prop :=
  ∃ L a n cap a' cap', v = .slice a n cap ∧ u = .slice a' n cap' ∧ L.length = n ∧ n ≤ 1000000 ∧ KeyIn B w a L ∧ KeyIn B w a' L
theorem KeyIn.chg {S : Nat → Obj → Prop} {B : Nat} {w w' : World} {a : Option Addr} {L : List K} (h : KeyIn B w a L) (hc : Chg S w w') (hS : ∀ k cs f, k < B → w.heap[k]? = some (.cells cs 76 f) → ¬ S k (.cells cs 76 f)) : KeyIn B w' a L := by
  by_cases hL : L = []
  · subst hL
    exact ⟨fun j v hj => by simp [keyCells] at hj, fun b off e hn => absurd rfl hn⟩
  refine ⟨h.1.heap (fun b off e hb => ?_), fun b off e hn => ?_⟩
  · obtain ⟨hB, cs, f, hg⟩ := h.2 b off e hL
    have := hc.kept b _ hg (hS b cs f hB hg)
    exact ⟨this.trans hg.symm, heap_lt this⟩
  · obtain ⟨hB, cs, f, hg⟩ := h.2 b off e hL
    exact ⟨hB, cs, f, hc.kept b _ hg (hS b cs f hB hg)⟩
theorem KeyIn.mono {B C : Nat} {w : World} {a : Option Addr} {L : List K} (h : KeyIn B w a L) (hBC : B ≤ C) : KeyIn C w a L :=
  ⟨h.1, fun b off e hn => by obtain ⟨hB, r⟩ := h.2 b off e hn; exact ⟨by omega, r⟩⟩
theorem HeldK.chg {S : Nat → Obj → Prop} {B : Nat} {w w' : World} {v u : Value} (h : HeldK B w v u) (hc : Chg S w w') (hS : ∀ k cs f, k < B → w.heap[k]? = some (.cells cs 76 f) → ¬ S k (.cells cs 76 f)) : HeldK B w' v u := by
  obtain ⟨L, a, n, cap, a', cap', e1, e2, e3, e4, h1, h2⟩ := h
  exact ⟨L, a, n, cap, a', cap', e1, e2, e3, e4, h1.chg hc hS, h2.chg hc hS⟩
theorem HeldK.mono {B C : Nat} {w : World} {v u : Value} (h : HeldK B w v u) (hBC : B ≤ C) : HeldK C w v u := by
  obtain ⟨L, a, n, cap, a', cap', e1, e2, e3, e4, h1, h2⟩ := h
  exact ⟨L, a, n, cap, a', cap', e1, e2, e3, e4, h1.mono hBC, h2.mono hBC⟩
theorem KeyIn.of_row {w : World} {B n cap : Nat} {a : Option Addr} {L : List K} (h : w.ownsRow B 76 3 (.slice a n cap) n (keyCells L)) : KeyIn w.heap.size w a L := by
  refine ⟨CellsAt.row h, fun b off e hn => ?_⟩
  rcases h.2 with ⟨e', e''⟩ | ⟨g, cap', cur, e', _, hg, _⟩
  · simp only [Value.slice.injEq] at e'
    rw [e'.1] at e; cases e
  · simp only [Value.slice.injEq] at e'
    rw [e'.1] at e; cases e
    exact ⟨heap_lt hg, _, _, hg⟩
theorem KeyIn.of_block {w : World} {g : Nat} {L : List K} (h : w.heap[g]? = some (.cells (keyCells L).toArray 76 (0, 0))) : KeyIn w.heap.size w (some ⟨g, 0, none⟩) L := by
  refine ⟨fun j v hj => ⟨g, 0, rfl, heap_lt h, by rw [Nat.zero_add, cells_at h]; simpa using hj⟩, fun b off e hn => ?_⟩
  cases e
  exact ⟨heap_lt h, _, _, h⟩
theorem KeyIn.front {B : Nat} {w : World} {a : Option Addr} {L M : List K} (h : KeyIn B w a (L ++ M)) : KeyIn B w a L := by
  have e : keyCells (L ++ M) = keyCells L ++ keyCells M := by simp [keyCells]
  refine ⟨fun j v hj => h.1 j v ?_, fun b off e hn => h.2 b off e (by simp [hn])⟩
  rw [e, List.getElem?_append_left]
  · exact hj
  · rcases Nat.lt_or_ge j (keyCells L).length with h' | h'
    · exact h'
    · rw [List.getElem?_eq_none h'] at hj; cases hj
theorem KeyIn.keys {B : Nat} {w : World} {a : Option Addr} {L : List K} (h : KeyIn B w a L) : KeysAt w a L := h.1.keys

set_option maxRecDepth 100000 in
set_option maxHeartbeats 2000000 in
theorem keep_any (b : Nat) (f : Nat → Value) (lv wv : Value) (xs ys : List Value) (nl : Nat) (mark : Int) (L : List K) (a : Option Addr) (n cap B0 Bl : Nat) (w : World)
    (hW : WB w b f) (h16 : f 16 = lv) (h17 : f 17 = wv) (h20 : f 20 = .int .i64 mark) (hl : w.ownsRow B0 46 1 lv nl xs) (hw : w.ownsRow B0 46 1 wv nl ys)
    (hne : ∀ g, lv.ownBlock = some g → wv.ownBlock ≠ some g) (hnl : nl ≤ 900000) (hm : 0 ≤ mark ∧ mark ≤ 1000000000) (hn : n ≤ 900000) (hB : B0 ≤ w.heap.size) (hBl : Bl ≤ w.heap.size)
    (hL : w.ownsRow Bl 76 3 (.slice a n cap) n (keyCells L)) :
    Calls Tryz.prog 15 #[.pointer (some ⟨b, 0, none⟩), .slice a n cap] w fun e w' =>
      ∃ lv' wv' v2 u1 u2, e = .returned (.tuple #[]) ∧ WB w' b (upd (upd (upd f 16 lv') 17 wv') 20 (.int .i64 (mark + n + 2))) ∧
        w'.ownsRow B0 46 1 lv' (nl + 2) (xs ++ [.slice a n cap, v2]) ∧ w'.ownsRow B0 46 1 wv' (nl + 2) (ys ++ [u1, u2]) ∧
        (∀ g, lv'.ownBlock = some g → wv'.ownBlock ≠ some g) ∧ HeldK w'.heap.size w' (.slice a n cap) u1 ∧ HeldK w'.heap.size w' v2 u2 ∧
        Chg (fun k _ => k = b ∨ lv.ownBlock = some k ∨ wv.ownBlock = some k ∨ (Value.slice a n cap).ownBlock = some k ∨ w.heap.size ≤ k) w w' := by
  have HW := Lib.hid hW
  have HL := Lib.hid hl
  have HX := Lib.hid hw
  have HK := Lib.hid hL
  have H16 := Lib.hid h16
  have H17 := Lib.hid h17
  have H20 := Lib.hid h20
  have HNE := Lib.hid hne
  clear hW hl hw hL h16 h17 h20 hne
  go_enter Tryz.func15, Tryz.ntmps15
  go_wp2_with fail
  go_loopw [4] (fun i wr => ∃ (k : Nat) (L' : List K), k ≤ n ∧ i = .int .i64 k ∧ WB wr b (upd f 20 (.int .i64 (mark + k))) ∧ wr.ownsRow Bl 76 3 (.slice a n cap) n (keyCells L') ∧ wr.heap.size = w.heap.size ∧
      Chg (fun k _ => k = b ∨ (Value.slice a n cap).ownBlock = some k) w wr) (fun i _ => n - (intOf i).toNat)
  case atStart => exact ⟨0, L, Nat.zero_le _, rfl, HW.out.congr (fun i _ => by
    by_cases e : i = 20
    · subst e; rw [upd_same, H20.out]; simp
    · rw [upd_other _ _ _ e]), HK.out, rfl, Chg.refl _ _⟩
  case round =>
    obtain ⟨k, L', hkn, rfl, hWr, hLr, hszr, hCr⟩ := hrel
    by_cases hlt : k < n
    · obtain ⟨g, c', e, hBg, hnc, hcm, hlen, hKB⟩ := KB.of_row hLr (by omega)
      simp only [Value.slice.injEq] at e
      obtain ⟨rfl, _, rfl⟩ := e
      obtain ⟨mk, hmk⟩ : ∃ mk : Int, mark + k = mk := ⟨_, rfl⟩
      rw [hmk] at hWr
      have hmkb : 0 ≤ mk ∧ mk ≤ 2000000000 := by omega
      have c20 := hWr.cell (i := 20) (by omega)
      rw [upd_same] at c20
      have f20 := hWr.free 20
      have d0 := hKB.cell0 hlt
      have d1 := hKB.cell1 hlt
      have d2 := hKB.cell2 hlt
      have fr := hKB.free
      have hne1 : b ≠ g := fun e => hWr.neOwn hLr (by decide) (by rw [e]; rfl)
      have w1 : IntKind.i64.wrap (mk + 1) = mk + 1 := IntWalk.i64_in _ (by omega)
      have w2 : IntKind.i64.wrap (-(mk + 1)) = -(mk + 1) := IntWalk.i64_in _ (by omega)
      have HWr := Lib.hid hWr
      have HLr := Lib.hid hLr
      have HMK := Lib.hid hmk
      have HCr := Lib.hid hCr
      have HSZ := Lib.hid hszr
      clear hWr hLr hmk hCr hszr hKB
      go_wp2_with fail
      refine ⟨⟨k + 1, L'.set k ⟨-(mk + 1), 0, 0⟩, by omega, by go_num, ?_, ?_, by simpa using HSZ.out, ?_⟩, by simp [intOf]; omega⟩
      · have e : mark + ((k + 1 : Nat) : Int) = mk + 1 := by rw [← HMK.out]; omega
        rw [e]
        have h := (((HWr.out.set (i := 20) (by omega) (.int .i64 (mk + 1))).other (i := k * 3) (fun e => hne1 e.symm) (.int .i64 (-(mk + 1)))).other (i := k * 3 + 1) (fun e => hne1 e.symm) (.int .i64 0)).other (i := k * 3 + 2) (fun e => hne1 e.symm) (.int .i64 0)
        exact h.congr (fun i _ => by
          by_cases e : i = 20
          · rw [e, upd_same, upd_same]
          · rw [upd_other _ _ _ e, upd_other _ _ _ e, upd_other _ _ _ e])
      · exact own_setKey (own_chg HLr.out ((Chg.refl (fun k _ => k = b) wr).setCell (p := ⟨b, 20, none⟩) (.int .i64 (mk + 1)) (fun _ _ => rfl)) (fun g' o e h => by
          simp only [Value.ownBlock, Option.some.injEq] at e; omega)) hlt ⟨-(mk + 1), 0, 0⟩
      · exact (((HCr.out.setCell (p := ⟨b, 20, none⟩) _ (fun _ _ => .inl rfl)).setCell (p := ⟨g, k * 3, none⟩) _ (fun _ _ => .inr rfl)).setCell (p := ⟨g, k * 3 + 1, none⟩) _ (fun _ _ => .inr rfl)).setCell (p := ⟨g, k * 3 + 2, none⟩) _ (fun _ _ => .inr rfl)
    · have hk' : k = n := by omega
      subst hk'
      clear hlt
      obtain ⟨mk, hmk⟩ : ∃ mk : Int, mark + k = mk := ⟨_, rfl⟩
      rw [hmk] at hWr
      have hmkb : 0 ≤ mk ∧ mk ≤ 2000000000 := by omega
      have c20 := hWr.cell (i := 20) (by omega)
      rw [upd_same] at c20
      have f20 := hWr.free 20
      have w1 : IntKind.i64.wrap (mk + 2) = mk + 2 := IntWalk.i64_in _ (by omega)
      have w2 : IntKind.i64.wrap (1 - (mk + 2)) = 1 - (mk + 2) := IntWalk.i64_in _ (by omega)
      have w3 : IntKind.i64.wrap (-(mk + 2)) = -(mk + 2) := IntWalk.i64_in _ (by omega)
      have HWr := Lib.hid hWr
      have HLr := Lib.hid hLr
      have HMK := Lib.hid hmk
      have HCr := Lib.hid hCr
      have HSZ := Lib.hid hszr
      clear hWr hLr hmk hCr hszr
      obtain ⟨wb, hwb⟩ : ∃ wb, wr.setCell ⟨b, 20, none⟩ (.int .i64 (mk + 2)) = wb := ⟨_, rfl⟩
      have hWb : WB wb b (upd (upd f 20 (.int .i64 mk)) 20 (.int .i64 (mk + 2))) := by rw [← hwb]; exact HWr.out.set (by omega) _
      have hLb : wb.ownsRow Bl 76 3 (.slice a k cap) k (keyCells L') := by
        rw [← hwb]; exact own_chg HLr.out ((Chg.refl (fun k _ => k = b) wr).setCell (p := ⟨b, 20, none⟩) (.int .i64 (mk + 2)) (fun _ _ => rfl)) (fun g' o e h => HWr.out.neOwn HLr.out (by decide) (h ▸ e))
      have hnew := cells_new wb [.int .i64 (1 - (mk + 2)), .int .i64 0, .int .i64 0, .int .i64 (-(mk + 2)), .int .i64 0, .int .i64 0] 76 (n := wr.heap.size) (by rw [← hwb]; simp)
      have HWB := Lib.hid hWb
      have HLB := Lib.hid ((hLb.alloc (.cells #[.int .i64 (1 - (mk + 2)), .int .i64 0, .int .i64 0, .int .i64 (-(mk + 2)), .int .i64 0, .int .i64 0] 76)).drew)
      have HNEW : Hid (∀ j u, [Value.int .i64 (1 - (mk + 2)), .int .i64 0, .int .i64 0, .int .i64 (-(mk + 2)), .int .i64 0, .int .i64 0][j]? = some u → (wb.alloc (.cells #[.int .i64 (1 - (mk + 2)), .int .i64 0, .int .i64 0, .int .i64 (-(mk + 2)), .int .i64 0, .int .i64 0] 76)).drew.cell? ((⟨wr.heap.size, 0, none⟩ : Addr).add j) = some u) := hnew
      have HWBe := Lib.hid hwb
      have k3 : k + 2 ≤ maxLen := by unfold maxLen; omega
      have K3 := Lib.hid k3
      obtain ⟨i0, hi, hz0, hz1, hz2⟩ := info_parts info_key
      clear hWb hLb hnew hwb k3
      go_wp2_with fail
      rw [HWBe.out]
      have cb20 := HWB.out.cell (i := 20) (by omega)
      rw [upd_same] at cb20
      have hszb : wb.heap.size = wr.heap.size := by rw [← HWBe.out]; simp
      go_region_law (refine step_append_to rfl _ _ _ rfl Bl 76 i0 _ 3 24 Tryz.underlying46 hi hz0 hz1 hz2 rfl (by decide) (.slice a k cap) k _ rfl HLB.out ⟨wr.heap.size, 0, none⟩ 2 2 _ rfl rfl HNEW.out (by simp [Value.oneCell']) (by omega) K3.out (by omega) (by have := HSZ.out; simp; omega) ?_; intro gg gc w4 hl4 hto4)
      all_goals
        have hL4 : w4.ownsRow Bl 76 3 (.slice (some ⟨gg, 0, none⟩) (k + 2) gc) (k + 2) (keyCells (L' ++ [⟨1 - (mk + 2), 0, 0⟩, ⟨-(mk + 2), 0, 0⟩])) := by
          have e : keyCells (L' ++ [⟨1 - (mk + 2), 0, 0⟩, ⟨-(mk + 2), 0, 0⟩]) = keyCells L' ++ [.int .i64 (1 - (mk + 2)), .int .i64 0, .int .i64 0, .int .i64 (-(mk + 2)), .int .i64 0, .int .i64 0] := by simp [keyCells]
          rw [e]; exact hl4
        have hWx := HWB.out.alloc (.cells #[.int .i64 (1 - (mk + 2)), .int .i64 0, .int .i64 0, .int .i64 (-(mk + 2)), .int .i64 0, .int .i64 0] 76)
        have hnb : (Value.slice a k cap).ownBlock ≠ some b := HWr.out.neOwn HLr.out (by decide)
        have hW4 : WB w4 b (upd (upd f 20 (.int .i64 mk)) 20 (.int .i64 (mk + 2))) := SB.grown (w := (wb.alloc (.cells #[.int .i64 (1 - (mk + 2)), .int .i64 0, .int .i64 0, .int .i64 (-(mk + 2)), .int .i64 0, .int .i64 0] 76)).drew) hWx hto4.grown hnb
        have hKl : KeyIn w4.heap.size w4 (some ⟨gg, 0, none⟩) (L' ++ [⟨1 - (mk + 2), 0, 0⟩, ⟨-(mk + 2), 0, 0⟩]) := KeyIn.of_row hL4
        have hKa : KeyIn w4.heap.size w4 a L' := by
          rcases hto4 with ⟨e, hg⟩ | ⟨e, hg⟩
          · have ea : a = some ⟨gg, 0, none⟩ := by
              rcases HLr.out.2 with ⟨e', _⟩ | ⟨g', cp', cur, e', _⟩
              · simp only [Value.slice.injEq] at e'; rw [e'.1] at e; simp [Value.ownBlock] at e
              · simp only [Value.slice.injEq] at e'; rw [e'.1] at e ⊢; simp only [Value.ownBlock, Option.some.injEq] at e; rw [e]
            rw [ea]
            exact hKl.front
          · exact KeyIn.of_row (cap := cap) (n := k) (HLB.out.kept hg (by cases (Value.slice a k cap).ownBlock <;> simp))
        have hC4 : Chg (fun x _ => x = b ∨ (Value.slice a k cap).ownBlock = some x ∨ w.heap.size ≤ x) w w4 :=
          (((HCr.out.mono (fun x o _ h => h.elim .inl (fun h => .inr (.inl h)))).trans (by rw [← HWBe.out]; exact (Chg.refl _ wr).setCell _ (fun _ _ => .inl rfl))).alloc _).drew.grown hto4.grown (fun x o e _ => .inr (.inl e))
        have hrow4 : ∀ (v : Value) (n' : Nat) (zs : List Value), w.ownsRow B0 46 1 v n' zs → w4.ownsRow B0 46 1 v n' zs := fun v n' zs h => by
          refine own_chg h hC4 (fun g o e hx => ?_)
          rcases hx with hx | hx | hx
          · exact HW.out.neOwn h (by decide) (hx ▸ e)
          · obtain ⟨_, cur, hgv⟩ := ownsRow_blk h e
            obtain ⟨_, cur', hgv'⟩ := ownsRow_blk HK.out hx
            rw [hgv] at hgv'
            simp only [Option.some.injEq, Obj.cells.injEq] at hgv'
            exact absurd hgv'.2.1 (by decide)
          · have := (h.lt g e).2; omega
        have h16' : upd (upd f 20 (.int .i64 mk)) 20 (.int .i64 (mk + 2)) 16 = lv := by rw [upd_other _ _ _ (by omega), upd_other _ _ _ (by omega)]; exact H16.out
        have h17' : upd (upd f 20 (.int .i64 mk)) 20 (.int .i64 (mk + 2)) 17 = wv := by rw [upd_other _ _ _ (by omega), upd_other _ _ _ (by omega)]; exact H17.out
        have hlen : L'.length = k := by have := HLr.out.1; rw [keyCells_length] at this; omega
        have hB4 : w.heap.size ≤ w4.heap.size := hC4.size
        have hcon := hold_any b _ lv wv xs ys nl L' a k cap B0 w4 hW4 h16' h17' (hrow4 _ _ _ HL.out) (hrow4 _ _ _ HX.out) HNE.out (by omega) hlen (by omega) (by omega) hKa.keys
        have HW4 := Lib.hid hW4
        have HL4 := Lib.hid (hrow4 _ _ _ HL.out)
        have HX4 := Lib.hid (hrow4 _ _ _ HX.out)
        have HKl := Lib.hid hKl
        have HKa := Lib.hid hKa
        have HC4 := Lib.hid hC4
        have HCON := Lib.hid hcon
        clear hWx hW4 hKl hKa hC4 hrow4 h16' h17' hcon hL4 hl4 hto4
        go_wp2_with fail
        refine HCON.out.mono ?_
        rintro e w5 ⟨lv5, wv5, g5, c5, rfl, hW5, hl5, hw5, hne5, hg5, hgg5, hC5, hla5, hwa5⟩
        obtain ⟨F4, hF4⟩ : ∃ F, upd (upd f 20 (.int .i64 mk)) 20 (.int .i64 (mk + 2)) = F := ⟨_, rfl⟩
        rw [hF4] at hW5
        have hno : ∀ (W : World) (fW : Nat → Value) (v v' : Value) (m m' : Nat) (zs zs' : List Value), WB W b fW → W.ownsRow B0 46 1 v m zs → W.ownsRow B0 46 1 v' m' zs' →
            ∀ x cs fr, x < W.heap.size → W.heap[x]? = some (.cells cs 76 fr) → ¬ (x = b ∨ v.ownBlock = some x ∨ v'.ownBlock = some x) := by
          intro W fW v v' m m' zs zs' hb h1 h2 x cs fr _ hx hS
          rcases hS with rfl | hS | hS
          · obtain ⟨cs', hb'⟩ := hb.block
            rw [hb'] at hx; simp only [Option.some.injEq, Obj.cells.injEq] at hx; exact absurd hx.2.1 (by decide)
          · obtain ⟨_, cur, hv⟩ := ownsRow_blk h1 hS
            rw [hv] at hx; simp only [Option.some.injEq, Obj.cells.injEq] at hx; exact absurd hx.2.1 (by decide)
          · obtain ⟨_, cur, hv⟩ := ownsRow_blk h2 hS
            rw [hv] at hx; simp only [Option.some.injEq, Obj.cells.injEq] at hx; exact absurd hx.2.1 (by decide)
        have hWW4 := HW4.out
        have hKa5 := HKa.out.chg hC5 (hno w4 _ lv wv nl nl xs ys HW4.out HL4.out HX4.out)
        have hKl5 := HKl.out.chg hC5 (hno w4 _ lv wv nl nl xs ys HW4.out HL4.out HX4.out)
        have hKg5 : KeyIn w5.heap.size w5 (some ⟨g5, 0, none⟩) L' := KeyIn.of_block hgg5
        have hsz5 := hC5.size
        have hcon := hold_any b _ lv5 wv5 _ _ (nl + 1) (L' ++ [⟨1 - (mk + 2), 0, 0⟩, ⟨-(mk + 2), 0, 0⟩]) (some ⟨gg, 0, none⟩) (k + 2) gc B0 w5 hW5 (by rw [upd_other _ _ _ (by omega), upd_same]) (upd_same _ _ _) hl5 hw5 hne5 (by omega) (by simp; omega) (by omega) (by omega) hKl5.keys
        have HWW5 := Lib.hid (hno w5 _ lv5 wv5 _ _ _ _ hW5 hl5 hw5)
        have HKa5 := Lib.hid hKa5
        have HKl5 := Lib.hid hKl5
        have HKg5 := Lib.hid hKg5
        have HC5 := Lib.hid hC5
        have HCON5 := Lib.hid hcon
        have HF4 := Lib.hid hF4
        have HLA5 := Lib.hid hla5
        have HWA5 := Lib.hid hwa5
        clear hla5 hwa5 hW5 hl5 hw5 hne5 hgg5 hC5 hno hWW4 hKa5 hKl5 hKg5 hcon hF4
        go_wp2_with fail
        refine HCON5.out.mono ?_
        rintro e w6 ⟨lv6, wv6, g6, c6, rfl, hW6, hl6, hw6, hne6, hg6, hgg6, hC6, _, _⟩
        have hKa6 := (HKa5.out.mono hsz5).chg hC6 HWW5.out
        have hKl6 := (HKl5.out.mono hsz5).chg hC6 HWW5.out
        have hKg6 := HKg5.out.chg hC6 HWW5.out
        have hKh6 : KeyIn w6.heap.size w6 (some ⟨g6, 0, none⟩) (L' ++ [⟨1 - (mk + 2), 0, 0⟩, ⟨-(mk + 2), 0, 0⟩]) := KeyIn.of_block hgg6
        have hsz6 := hC6.size
        have hfin : WB w6 b (upd (upd (upd f 16 lv6) 17 wv6) 20 (.int .i64 (mark + k + 2))) := hW6.congr (fun i _ => by
          rw [← HF4.out, HMK.out]
          simp only [upd]
          by_cases e0 : i = 20
          · subst e0; simp
          · by_cases e1 : i = 17
            · subst e1; simp
            · by_cases e2 : i = 16
              · subst e2; simp
              · simp [e0, e1, e2])
        have hCF : Chg (fun x _ => x = b ∨ lv.ownBlock = some x ∨ wv.ownBlock = some x ∨ (Value.slice a k cap).ownBlock = some x ∨ w.heap.size ≤ x) w w6 := by
          refine ((HC4.out.mono (fun x o _ h => ?_)).trans (HC5.out.mono (fun x o _ h => ?_))).trans (hC6.mono (fun x o _ h => ?_))
          · rcases h with h | h | h
            · exact .inl h
            · exact .inr (.inr (.inr (.inl h)))
            · exact .inr (.inr (.inr (.inr h)))
          · rcases h with h | h | h
            · exact .inl h
            · exact .inr (.inl h)
            · exact .inr (.inr (.inl h))
          · rcases h with h | h | h
            · exact .inl h
            · rcases HLA5.out x h with h | h
              · exact .inr (.inl h)
              · exact .inr (.inr (.inr (.inr (by omega))))
            · rcases HWA5.out x h with h | h
              · exact .inr (.inr (.inl h))
              · exact .inr (.inr (.inr (.inr (by omega))))
        have HFIN := Lib.hid hfin
        have HCF := Lib.hid hCF
        have Hl6 := Lib.hid hl6
        have Hw6 := Lib.hid hw6
        have Hne6 := Lib.hid hne6
        have HH1 : Hid (HeldK w6.heap.size w6 (.slice a k cap) (.slice (some ⟨g5, 0, none⟩) k c5)) := ⟨L', a, k, cap, _, c5, rfl, rfl, hlen, by omega, hKa6.mono hsz6, hKg6.mono hsz6⟩
        have HH2 : Hid (HeldK w6.heap.size w6 (.slice (some ⟨gg, 0, none⟩) (k + 2) gc) (.slice (some ⟨g6, 0, none⟩) (k + 2) c6)) := ⟨_, _, k + 2, gc, _, c6, rfl, rfl, by simp; omega, by omega, hKl6.mono hsz6, hKh6⟩
        clear hW6 hl6 hw6 hne6 hgg6 hC6 hKa6 hKl6 hKg6 hKh6 hfin hCF
        go_wp2
        go_end0
        exact ⟨lv6, wv6, _, _, _, rfl, HFIN.out, by simpa using Hl6.out, by simpa using Hw6.out, Hne6.out, HH1.out, HH2.out, HCF.out⟩
end Go.Proofs.YtfngdplkcppabaaGreatDoor
