/-
  A block of api.Keys, as a function of the place.
-/
import Derived.Test.YtfngdplkcppabaaGreatDoorScrA
namespace Go.Proofs.YtfngdplkcppabaaGreatDoor
open Go.RowKit

/-- Block b is one of N api.Keys: f. -/
def KB (w : World) (b N : Nat) (f : Nat → K) : Prop :=
  ∃ cs : Array Value, w.heap[b]? = some (.cells cs 76 (0, 0)) ∧ N * 3 ≤ cs.size ∧
    ∀ i, i < N → cs[i * 3]? = some (.int .i64 (f i).id) ∧ cs[i * 3 + 1]? = some (.int .i64 (f i).inc) ∧ cs[i * 3 + 2]? = some (.int .i64 (f i).st)
section
variable {w w' : World} {b N : Nat} {f : Nat → K}
theorem KB.lt (h : KB w b N f) : b < w.heap.size := by obtain ⟨cs, h, _⟩ := h; exact heap_lt h
theorem KB.cell0 (h : KB w b N f) {i : Nat} (hi : i < N) : w.cell? ⟨b, i * 3, none⟩ = some (.int .i64 (f i).id) := by
  obtain ⟨cs, h, _, hc⟩ := h; rw [cells_at h]; exact (hc i hi).1
theorem KB.cell1 (h : KB w b N f) {i : Nat} (hi : i < N) : w.cell? ⟨b, i * 3 + 1, none⟩ = some (.int .i64 (f i).inc) := by
  obtain ⟨cs, h, _, hc⟩ := h; rw [cells_at h]; exact (hc i hi).2.1
theorem KB.cell2 (h : KB w b N f) {i : Nat} (hi : i < N) : w.cell? ⟨b, i * 3 + 2, none⟩ = some (.int .i64 (f i).st) := by
  obtain ⟨cs, h, _, hc⟩ := h; rw [cells_at h]; exact (hc i hi).2.2
theorem KB.free (h : KB w b N f) (k : Nat) : w.frozen? ⟨b, k, none⟩ = false := by
  obtain ⟨cs, h, _⟩ := h; exact unfrozen h k
theorem KB.heap (h : KB w b N f) (e : w'.heap[b]? = w.heap[b]?) : KB w' b N f := by
  obtain ⟨cs, h, hr⟩ := h; exact ⟨cs, e.trans h, hr⟩
theorem KB.block (h : KB w b N f) : ∃ cs, w.heap[b]? = some (.cells cs 76 (0, 0)) := by obtain ⟨cs, h, _⟩ := h; exact ⟨cs, h⟩
theorem KB.alloc (h : KB w b N f) (o : Obj) : KB (w.alloc o) b N f := h.heap (Below.heap_alloc _ _ _ h.lt)
theorem KB.under {B : Nat} (h : KB w b N f) (hb : Below B w w') (hB : b < B) : KB w' b N f := h.heap (hb.block b hB)
theorem KB.keysAt (h : KB w b N f) {l : List K} (hl : l.length ≤ N) (hf : ∀ i k, l[i]? = some k → f i = k) : KeysAt w (some ⟨b, 0, none⟩) l := by
  intro i k hk
  have hi : i < N := by
    rcases Nat.lt_or_ge i l.length with h' | h'
    · omega
    · rw [List.getElem?_eq_none h'] at hk; cases hk
  refine ⟨b, 0, rfl, h.lt, ?_, ?_, ?_⟩
  · rw [Nat.zero_add, h.cell0 hi, hf i k hk]
  · rw [Nat.zero_add, h.cell1 hi, hf i k hk]
  · rw [Nat.zero_add, h.cell2 hi, hf i k hk]
/-- One key is written. -/
theorem KB.set (h : KB w b N f) {i : Nat} (hi : i < N) (k : K) :
    KB (((w.setCell ⟨b, i * 3, none⟩ (.int .i64 k.id)).setCell ⟨b, i * 3 + 1, none⟩ (.int .i64 k.inc)).setCell ⟨b, i * 3 + 2, none⟩ (.int .i64 k.st)) b N (fun j => if j = i then k else f j) := by
  obtain ⟨cs, h, hs, hc⟩ := h
  refine ⟨_, heap_setCell_eq (heap_setCell_eq (heap_setCell_eq h)), by simpa using hs, fun j hj => ?_⟩
  by_cases e : j = i
  · subst e
    have h0 : j * 3 < cs.size := by omega
    have h1 : j * 3 + 1 < cs.size := by omega
    have h2 : j * 3 + 2 < cs.size := by omega
    simp [Array.getElem?_setIfInBounds, h0, h1, h2]
  · have := hc j hj
    simp only [Array.getElem?_setIfInBounds, if_neg e]
    rw [if_neg (by omega), if_neg (by omega), if_neg (by omega), if_neg (by omega), if_neg (by omega), if_neg (by omega), if_neg (by omega), if_neg (by omega), if_neg (by omega)]
    exact this
end
/-- A row of the call's own is such a block. -/
theorem KB.of_row {w : World} {B n : Nat} {v : Value} {l : List K} (h : w.ownsRow B 76 3 v n (keyCells l)) (hn : 0 < n) : ∃ g cap, v = .slice (some ⟨g, 0, none⟩) n cap ∧ B ≤ g ∧ n ≤ cap ∧ cap ≤ maxLen ∧ l.length = n ∧
    KB w g n (fun i => l.getD i ⟨0, 0, 0⟩) := by
  obtain ⟨g0, cap0, rfl⟩ := ownsRow_sl h
  obtain ⟨hlen, hk⟩ := keysAt_row h
  rcases h.2 with ⟨_, e⟩ | ⟨g, cap, cur, e, hB, hg, hc, hm, hs, _⟩
  · omega
  · simp only [Value.slice.injEq] at e
    obtain ⟨rfl, _, rfl⟩ := e
    refine ⟨g, cap0, rfl, hB, hc, hm, hlen, cur, hg, by rw [hs]; exact Nat.mul_le_mul_right 3 hc, fun i hi => ?_⟩
    have hi' : i < l.length := by omega
    obtain ⟨b, off, e, _, c0, c1, c2⟩ := hk i l[i] (List.getElem?_eq_getElem hi')
    simp only [Option.some.injEq, Addr.mk.injEq] at e
    obtain ⟨rfl, rfl, _⟩ := e
    have hd : l.getD i ⟨0, 0, 0⟩ = l[i] := by simp [List.getD, hi']
    rw [cells_at hg, Nat.zero_add] at c0 c1 c2
    show cur[i * 3]? = some (.int .i64 (l.getD i ⟨0, 0, 0⟩).id) ∧ cur[i * 3 + 1]? = some (.int .i64 (l.getD i ⟨0, 0, 0⟩).inc) ∧ cur[i * 3 + 2]? = some (.int .i64 (l.getD i ⟨0, 0, 0⟩).st)
    rw [hd]
    exact ⟨c0, c1, c2⟩
/-- make([]api.Key, n). -/
theorem make_keys (n : Nat) (hn : n ≤ 2000000) : ∃ cs : Array Value, (∀ W : World, (Instr.makeSlice 46 (.int .i64 (n : Int)) (.int .i64 (n : Int))).run Tryz.prog W = .ok (.slice (some ⟨W.heap.size, 0, none⟩) n n) (W.alloc (.cells cs 76))) ∧
    ∀ W : World, KB (W.alloc (.cells cs 76)) W.heap.size n (fun _ => ⟨0, 0, 0⟩) := by
  obtain ⟨i0, hi, hz0, hz1, hz2⟩ := info_parts info_key
  refine ⟨madeCells (Value.agg #[.int .i64 0, .int .i64 0, .int .i64 0]).cells (n * 3), fun W => ?_, fun W => ⟨_, heap_alloc_eq W _, by rw [size_madeCells]; exact Nat.le_refl _, fun i hi => ?_⟩⟩
  · have hr := run_make (P := Tryz.prog) W 46 76 i0 _ Tryz.underlying46 hi hz0 .i64 .i64 n n (by omega) (Int.le_refl _) (by rw [hz2]; omega) (by omega)
    simp only [Int.toNat_natCast, hz1] at hr
    exact hr
  · have hc : (Value.agg #[.int .i64 0, .int .i64 0, .int .i64 0]).cells = #[Value.int .i64 0, .int .i64 0, .int .i64 0] := rfl
    have h0 : i * 3 < n * 3 := by omega
    have h1 : i * 3 + 1 < n * 3 := by omega
    have h2 : i * 3 + 2 < n * 3 := by omega
    have e0 : (i * 3) % 3 = 0 := by omega
    have e1 : (i * 3 + 1) % 3 = 1 := by omega
    have e2 : (i * 3 + 2) % 3 = 2 := by omega
    rw [hc]
    refine ⟨?_, ?_, ?_⟩ <;> simp [madeCells, h0, h1, h2, e0, e1, e2]
end Go.Proofs.YtfngdplkcppabaaGreatDoor
