/-
  gossiplaw: looks.
-/
import Derived.Test.YtfngdplkcppabaaGreatDoorKeep
namespace Go.Proofs.YtfngdplkcppabaaGreatDoor
open Go.RowKit

/-- A packet's two cells. -/
def pkCells (l : List (Int × ByteArray)) : List Value := l.flatMap fun p => [.int .i64 p.1, .string p.2]
theorem pkCells_length (l : List (Int × ByteArray)) : (pkCells l).length = 2 * l.length := by
  induction l with
  | nil => rfl
  | cons a l ih => simp [pkCells] at ih ⊢; omega
theorem pkCells_at (l : List (Int × ByteArray)) : ∀ (i : Nat) (p : Int × ByteArray), l[i]? = some p → (pkCells l)[i * 2]? = some (.int .i64 p.1) ∧ (pkCells l)[i * 2 + 1]? = some (.string p.2) := by
  induction l with
  | nil => intro i p h; simp at h
  | cons a l ih =>
    intro i p h
    cases i with
    | zero => simp at h; subst h; simp [pkCells]
    | succ i =>
      have e : pkCells (a :: l) = [.int .i64 a.1, .string a.2] ++ pkCells l := rfl
      have := ih i p (by simpa using h)
      rw [e]
      constructor
      · rw [List.getElem?_append_right (by simp; omega)]
        rw [show (i + 1) * 2 - [Value.int IntKind.i64 a.1, Value.string a.2].length = i * 2 by simp; omega]; exact this.1
      · rw [List.getElem?_append_right (by simp; omega)]
        rw [show (i + 1) * 2 + 1 - [Value.int IntKind.i64 a.1, Value.string a.2].length = i * 2 + 1 by simp; omega]; exact this.2
def PkIn (B : Nat) (w : World) (a : Option Addr) (L : List (Int × ByteArray)) : Prop :=
  CellsAt w a (pkCells L) ∧ ∀ b off, a = some ⟨b, off, none⟩ → L ≠ [] → b < B ∧ ∃ cs f, w.heap[b]? = some (.cells cs 78 f)
def HeldP (B : Nat) (w : World) (v u : Value) : Prop :=
  ∃ L a n cap a' cap', v = .slice a n cap ∧ u = .slice a' n cap' ∧ L.length = n ∧ n ≤ 1000000 ∧ PkIn B w a L ∧ PkIn B w a' L
theorem PkIn.chg {S : Nat → Obj → Prop} {B : Nat} {w w' : World} {a : Option Addr} {L : List (Int × ByteArray)} (h : PkIn B w a L) (hc : Chg S w w') (hS : ∀ k cs f, k < B → w.heap[k]? = some (.cells cs 78 f) → ¬ S k (.cells cs 78 f)) : PkIn B w' a L := by
  by_cases hL : L = []
  · subst hL
    exact ⟨fun j v hj => by simp [pkCells] at hj, fun b off e hn => absurd rfl hn⟩
  refine ⟨h.1.heap (fun b off e hb => ?_), fun b off e hn => ?_⟩
  · obtain ⟨hB, cs, f, hg⟩ := h.2 b off e hL
    have := hc.kept b _ hg (hS b cs f hB hg)
    exact ⟨this.trans hg.symm, heap_lt this⟩
  · obtain ⟨hB, cs, f, hg⟩ := h.2 b off e hL
    exact ⟨hB, cs, f, hc.kept b _ hg (hS b cs f hB hg)⟩
theorem HeldP.chg {S : Nat → Obj → Prop} {B : Nat} {w w' : World} {v u : Value} (h : HeldP B w v u) (hc : Chg S w w') (hS : ∀ k cs f, k < B → w.heap[k]? = some (.cells cs 78 f) → ¬ S k (.cells cs 78 f)) : HeldP B w' v u := by
  obtain ⟨L, a, n, cap, a', cap', e1, e2, e3, e4, h1, h2⟩ := h
  exact ⟨L, a, n, cap, a', cap', e1, e2, e3, e4, h1.chg hc hS, h2.chg hc hS⟩
theorem HeldP.mono {B C : Nat} {w : World} {v u : Value} (h : HeldP B w v u) (hBC : B ≤ C) : HeldP C w v u := by
  obtain ⟨L, a, n, cap, a', cap', e1, e2, e3, e4, ⟨h1, h2⟩, h3, h4⟩ := h
  exact ⟨L, a, n, cap, a', cap', e1, e2, e3, e4, ⟨h1, fun b off e hn => by obtain ⟨hB, r⟩ := h2 b off e hn; exact ⟨by omega, r⟩⟩, ⟨h3, fun b off e hn => by obtain ⟨hB, r⟩ := h4 b off e hn; exact ⟨by omega, r⟩⟩⟩

/-- A cell of a row of one-cell values. -/
theorem row_cell {w : World} {B e n cap i : Nat} {a : Option Addr} {xs : List Value} {v : Value} (h : w.ownsRow B e 1 (.slice a n cap) n xs) (hi : xs[i]? = some v) : ∃ g, a = some ⟨g, 0, none⟩ ∧ g < w.heap.size ∧ w.cell? ⟨g, i, none⟩ = some v := by
  have hlt : i < xs.length := by
    rcases Nat.lt_or_ge i xs.length with h' | h'
    · exact h'
    · rw [List.getElem?_eq_none h'] at hi; cases hi
  rcases h.2 with ⟨e', _⟩ | ⟨g, cap', cur, e', _, hg, _, _, _, ht⟩
  · have := h.1; omega
  · simp only [Value.slice.injEq] at e'
    obtain ⟨rfl, _, _⟩ := e'
    refine ⟨g, rfl, heap_lt hg, ?_⟩
    rw [cells_at hg]
    rw [← ht, List.getElem?_take] at hi
    rw [← Array.getElem?_toList]
    by_cases hl : i < n * 1
    · rw [if_pos hl] at hi; exact hi
    · rw [if_neg hl] at hi; cases hi

set_option maxRecDepth 100000 in
set_option maxHeartbeats 2000000 in
theorem looks_any (b : Nat) (f : Nat → Value) (la wa oa ka : Option Addr) (lc wc oc kc nl no : Nat) (xs ys os ks : List Value) (B0 Bk : Nat) (w : World)
    (hW : WB w b f) (h16 : f 16 = .slice la nl lc) (h17 : f 17 = .slice wa nl wc) (h18 : f 18 = .slice oa no oc) (h19 : f 19 = .slice ka no kc)
    (hl : w.ownsRow B0 46 1 (.slice la nl lc) nl xs) (hw : w.ownsRow B0 46 1 (.slice wa nl wc) nl ys)
    (ho : w.ownsRow B0 77 1 (.slice oa no oc) no os) (hk : w.ownsRow B0 77 1 (.slice ka no kc) no ks)
    (hnl : nl ≤ 1000000) (hno : no ≤ 1000000)
    (hheld : ∀ (i : Nat) v u, xs[i]? = some v → ys[i]? = some u → HeldK Bk w v u) (hheldP : ∀ (i : Nat) v u, os[i]? = some v → ks[i]? = some u → HeldP Bk w v u) :
    Calls Tryz.prog 16 #[.pointer (some ⟨b, 0, none⟩)] w fun e w' => e = .returned (.bool true) ∧ Below w.heap.size w w' := by
  have hlt := hW.lt
  have c16 : w.cell? ⟨b, 16, none⟩ = some (.slice la nl lc) := by rw [← h16]; exact hW.cell (by omega)
  have c17 : w.cell? ⟨b, 17, none⟩ = some (.slice wa nl wc) := by rw [← h17]; exact hW.cell (by omega)
  have c18 : w.cell? ⟨b, 18, none⟩ = some (.slice oa no oc) := by rw [← h18]; exact hW.cell (by omega)
  have c19 : w.cell? ⟨b, 19, none⟩ = some (.slice ka no kc) := by rw [← h19]; exact hW.cell (by omega)
  have HL := Lib.hid hl
  have HX := Lib.hid hw
  have HO := Lib.hid ho
  have HK := Lib.hid hk
  have HH := Lib.hid hheld
  have HHP := Lib.hid hheldP
  have C16 := Lib.hid c16
  have C17 := Lib.hid c17
  have C18 := Lib.hid c18
  have C19 := Lib.hid c19
  clear hW hl hw ho hk hheld hheldP h16 h17 h18 h19 c16 c17 c18 c19
  go_enter Tryz.func16, Tryz.ntmps16
  go_wp2_with fail
  go_loopw [3] (fun i wr => ∃ k : Nat, k ≤ nl ∧ i = .int .i64 k ∧ Below w.heap.size w wr) (fun i _ => nl - (intOf i).toNat)
  case atStart => exact ⟨0, Nat.zero_le _, rfl, Below.refl _ _⟩
  case round =>
    obtain ⟨k, hkl, rfl, hb⟩ := hrel
    have c16 : wr.cell? ⟨b, 16, none⟩ = some (.slice la nl lc) := (hb.cell hlt).trans C16.out
    have c17 : wr.cell? ⟨b, 17, none⟩ = some (.slice wa nl wc) := (hb.cell hlt).trans C17.out
    have HBB := Lib.hid hb
    clear hb
    by_cases hk : k < nl
    · have hxl : xs.length = nl := by have := HL.out.1; omega
      have hyl : ys.length = nl := by have := HX.out.1; omega
      have hx := List.getElem?_eq_getElem (l := xs) (i := k) (by omega)
      have hy := List.getElem?_eq_getElem (l := ys) (i := k) (by omega)
      obtain ⟨L, a, n, cap, a', cap', ev, eu, hLn, hn, hKa, hKb⟩ := HH.out k _ _ hx hy
      rw [ev] at hx
      rw [eu] at hy
      obtain ⟨g1, rfl, hg1, d1⟩ := row_cell HL.out hx
      obtain ⟨g2, rfl, hg2, d2⟩ := row_cell HX.out hy
      rw [← HBB.out.cell (p := ⟨g1, k, none⟩) hg1] at d1
      rw [← HBB.out.cell (p := ⟨g2, k, none⟩) hg2] at d2
      have HKA := Lib.hid hKa.keys
      have HKB := Lib.hid hKb.keys
      have HLN := Lib.hid hLn
      have D1 := Lib.hid d1
      have D2 := Lib.hid d2
      clear hx hy hKa hKb hLn hxl hyl ev eu
      go_wp2_with fail
      go_loopw [4] (fun i wr => ∃ j : Nat, j ≤ n ∧ i = .int .i64 j ∧ Below w.heap.size w wr) (fun i _ => n - (intOf i).toNat)
      case atStart => exact ⟨0, Nat.zero_le _, rfl, HBB.out⟩
      case round =>
        obtain ⟨j, hjn, rfl, hb2⟩ := hrel
        have c16 : wr.cell? ⟨b, 16, none⟩ = some (.slice (some ⟨g1, 0, none⟩) nl lc) := (hb2.cell hlt).trans C16.out
        have c17 : wr.cell? ⟨b, 17, none⟩ = some (.slice (some ⟨g2, 0, none⟩) nl wc) := (hb2.cell hlt).trans C17.out
        have d1 : wr.cell? ⟨g1, k, none⟩ = some (.slice a n cap) := ((hb2.cell (p := ⟨g1, k, none⟩) hg1).trans (HBB.out.cell (p := ⟨g1, k, none⟩) hg1).symm).trans D1.out
        have d2 : wr.cell? ⟨g2, k, none⟩ = some (.slice a' n cap') := ((hb2.cell (p := ⟨g2, k, none⟩) hg2).trans (HBB.out.cell (p := ⟨g2, k, none⟩) hg2).symm).trans D2.out
        by_cases hj : j < n
        · have hjL : j < L.length := by have := HLN.out; omega
          obtain ⟨b1, off1, rfl, hb1, e0, e1, e2⟩ := HKA.out j L[j] (List.getElem?_eq_getElem hjL)
          obtain ⟨b2, off2, rfl, hb2', e0', e1', e2'⟩ := HKB.out j L[j] (List.getElem?_eq_getElem hjL)
          rw [← hb2.cell hb1] at e0 e1 e2
          rw [← hb2.cell hb2'] at e0' e1' e2'
          have HB2 := Lib.hid hb2
          clear hb2
          go_wp2
          go_quiet (fail)
          go_wp2
          go_roundw
          case rel => exact ⟨j + 1, by omega, by go_num, below_drewN HB2.out _⟩
          case measure => simp [intOf]; omega
        · have hj' : j = n := by omega
          subst hj'
          have HB2 := Lib.hid hb2
          clear hb2
          go_wp2_with fail
          exact ⟨⟨k + 1, by omega, by go_num, HB2.out⟩, by simp [intOf]; omega⟩
    · have hk' : k = nl := by omega
      subst hk'
      go_wp2_with fail
      go_loopw [5] (fun i wr => ∃ k : Nat, k ≤ no ∧ i = .int .i64 k ∧ Below w.heap.size w wr) (fun i _ => no - (intOf i).toNat)
      case atStart => exact ⟨0, Nat.zero_le _, rfl, HBB.out⟩
      case round =>
        obtain ⟨k, hkl, rfl, hb⟩ := hrel
        have c18 : wr.cell? ⟨b, 18, none⟩ = some (.slice oa no oc) := (hb.cell hlt).trans C18.out
        have c19 : wr.cell? ⟨b, 19, none⟩ = some (.slice ka no kc) := (hb.cell hlt).trans C19.out
        have HBB := Lib.hid hb
        clear hb
        by_cases hk : k < no
        · have hxl : os.length = no := by have := HO.out.1; omega
          have hyl : ks.length = no := by have := HK.out.1; omega
          have hx := List.getElem?_eq_getElem (l := os) (i := k) (by omega)
          have hy := List.getElem?_eq_getElem (l := ks) (i := k) (by omega)
          obtain ⟨L, a, n, cap, a', cap', ev, eu, hLn, hn, hKa, hKb⟩ := HHP.out k _ _ hx hy
          rw [ev] at hx
          rw [eu] at hy
          obtain ⟨g1, rfl, hg1, d1⟩ := row_cell HO.out hx
          obtain ⟨g2, rfl, hg2, d2⟩ := row_cell HK.out hy
          rw [← HBB.out.cell (p := ⟨g1, k, none⟩) hg1] at d1
          rw [← HBB.out.cell (p := ⟨g2, k, none⟩) hg2] at d2
          have HKA := Lib.hid hKa.1
          have HKB := Lib.hid hKb.1
          have HLN := Lib.hid hLn
          have D1 := Lib.hid d1
          have D2 := Lib.hid d2
          clear hx hy hKa hKb hLn hxl hyl ev eu
          go_wp2_with fail
          go_loopw [6] (fun i wr => ∃ j : Nat, j ≤ n ∧ i = .int .i64 j ∧ Below w.heap.size w wr) (fun i _ => n - (intOf i).toNat)
          case atStart => exact ⟨0, Nat.zero_le _, rfl, HBB.out⟩
          case round =>
            obtain ⟨j, hjn, rfl, hb2⟩ := hrel
            have c18 : wr.cell? ⟨b, 18, none⟩ = some (.slice (some ⟨g1, 0, none⟩) no oc) := (hb2.cell hlt).trans C18.out
            have c19 : wr.cell? ⟨b, 19, none⟩ = some (.slice (some ⟨g2, 0, none⟩) no kc) := (hb2.cell hlt).trans C19.out
            have d1 : wr.cell? ⟨g1, k, none⟩ = some (.slice a n cap) := ((hb2.cell (p := ⟨g1, k, none⟩) hg1).trans (HBB.out.cell (p := ⟨g1, k, none⟩) hg1).symm).trans D1.out
            have d2 : wr.cell? ⟨g2, k, none⟩ = some (.slice a' n cap') := ((hb2.cell (p := ⟨g2, k, none⟩) hg2).trans (HBB.out.cell (p := ⟨g2, k, none⟩) hg2).symm).trans D2.out
            by_cases hj : j < n
            · have hjL : j < L.length := by have := HLN.out; omega
              obtain ⟨k0, k1⟩ := pkCells_at L j L[j] (List.getElem?_eq_getElem hjL)
              obtain ⟨b1, off1, rfl, hb1, e0⟩ := HKA.out _ _ k0
              obtain ⟨b1', off1', ex1, _, e1⟩ := HKA.out _ _ k1
              cases ex1
              obtain ⟨b2, off2, rfl, hb2', e0'⟩ := HKB.out _ _ k0
              obtain ⟨b2'', off2', ex2, _, e1'⟩ := HKB.out _ _ k1
              cases ex2
              rw [← hb2.cell hb1] at e0 e1
              rw [← hb2.cell hb2'] at e0' e1'
              rw [← Nat.add_assoc] at e1 e1'
              have HB2 := Lib.hid hb2
              clear hb2 k0 k1
              go_wp2
              go_quiet (fail)
              go_wp2
              go_roundw
              case rel => exact ⟨j + 1, by omega, by go_num, below_drewN HB2.out _⟩
              case measure => simp [intOf]; omega
            · have hj' : j = n := by omega
              subst hj'
              have HB2 := Lib.hid hb2
              clear hb2
              go_wp2_with fail
              exact ⟨⟨k + 1, by omega, by go_num, HB2.out⟩, by simp [intOf]; omega⟩
        · have hk' : k = no := by omega
          subst hk'
          go_wp2
          go_ret
          exact ⟨rfl, HBB.out⟩
end Go.Proofs.YtfngdplkcppabaaGreatDoor
