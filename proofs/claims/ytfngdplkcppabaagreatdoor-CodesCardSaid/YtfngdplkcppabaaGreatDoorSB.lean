/-
  A struct in memory: a block of one type, as a function of the place. No program in sight.
-/
import Derived.Test.YtfngdplkcppabaaGreatDoorBase
namespace Go.Proofs.YtfngdplkcppabaaGreatDoor
open Go.RowKit

def upd (f : Nat → Value) (i : Nat) (v : Value) (j : Nat) : Value := if j = i then v else f j
theorem upd_same (f : Nat → Value) (i : Nat) (v : Value) : upd f i v i = v := if_pos rfl
theorem upd_other (f : Nat → Value) (i : Nat) (v : Value) {j : Nat} (h : j ≠ i) : upd f i v j = f j := if_neg h
/-- Block b is a struct of type t with N cells: f. -/
def SB (t : TypeId) (N : Nat) (w : World) (b : Nat) (f : Nat → Value) : Prop :=
  ∃ cs : Array Value, w.heap[b]? = some (.cells cs t (0, 0)) ∧ N ≤ cs.size ∧ ∀ i, i < N → cs[i]? = some (f i)
section
variable {t : TypeId} {N : Nat} {w w' : World} {b : Nat} {f g : Nat → Value}
theorem SB.lt (h : SB t N w b f) : b < w.heap.size := by obtain ⟨cs, h, _⟩ := h; exact heap_lt h
theorem SB.cell (h : SB t N w b f) {i : Nat} (hi : i < N) : w.cell? ⟨b, i, none⟩ = some (f i) := by
  obtain ⟨cs, h, _, hc⟩ := h; rw [cells_at h]; exact hc i hi
theorem SB.free (h : SB t N w b f) (k : Nat) : w.frozen? ⟨b, k, none⟩ = false := by
  obtain ⟨cs, h, _⟩ := h; exact unfrozen h k
theorem SB.heap (h : SB t N w b f) (e : w'.heap[b]? = w.heap[b]?) : SB t N w' b f := by
  obtain ⟨cs, h, hr⟩ := h; exact ⟨cs, e.trans h, hr⟩
theorem SB.block (h : SB t N w b f) : ∃ cs, w.heap[b]? = some (.cells cs t (0, 0)) := by obtain ⟨cs, h, _⟩ := h; exact ⟨cs, h⟩
theorem SB.alloc (h : SB t N w b f) (o : Obj) : SB t N (w.alloc o) b f := h.heap (Below.heap_alloc _ _ _ h.lt)
theorem SB.drew (h : SB t N w b f) : SB t N w.drew b f := h
theorem SB.under {B : Nat} (h : SB t N w b f) (hb : Below B w w') (hB : b < B) : SB t N w' b f := h.heap (hb.block b hB)
theorem SB.chg {S : Nat → Obj → Prop} (h : SB t N w b f) (hc : Chg S w w') (hS : ∀ cs, ¬ S b (.cells cs t (0, 0))) : SB t N w' b f := by
  obtain ⟨cs, h, hr⟩ := h
  exact ⟨cs, hc.kept b _ h (hS cs), hr⟩
theorem SB.grown {row : Option Nat} (h : SB t N w b f) (hg : w.grownBy w' row) (hr : row ≠ some b) : SB t N w' b f := h.heap (hg.block b h.lt (fun e => hr e.symm))
theorem SB.set (h : SB t N w b f) {i : Nat} (hi : i < N) (v : Value) : SB t N (w.setCell ⟨b, i, none⟩ v) b (upd f i v) := by
  obtain ⟨cs, h, hs, hc⟩ := h
  refine ⟨_, heap_setCell_eq h, by simpa using hs, fun j hj => ?_⟩
  by_cases e : j = i
  · subst e
    have h0 : j < cs.size := by omega
    simp [h0, upd]
  · rw [Array.getElem?_setIfInBounds, if_neg (fun e' => e e'.symm), upd_other _ _ _ e]
    exact hc j hj
theorem SB.other (h : SB t N w b f) {b' i : Nat} (hb : b' ≠ b) (v : Value) : SB t N (w.setCell ⟨b', i, none⟩ v) b f := h.heap (heap_setCell_ne _ _ _ _ _ (fun e => hb e.symm))
theorem SB.congr (h : SB t N w b f) (e : ∀ i, i < N → f i = g i) : SB t N w b g := by
  obtain ⟨cs, h1, h2, h3⟩ := h
  exact ⟨cs, h1, h2, fun i hi => by rw [← e i hi]; exact h3 i hi⟩
theorem SB.ne {t' : TypeId} {N' b' : Nat} (h : SB t N w b f) (h' : SB t' N' w b' g) (ht : t ≠ t') : b ≠ b' := by
  obtain ⟨cs, h, _⟩ := h
  obtain ⟨cs', h', _⟩ := h'
  rintro rfl
  rw [h] at h'
  simp only [Option.some.injEq, Obj.cells.injEq] at h'
  exact ht h'.2.1
/-- .. lies apart from a row of another type. -/
theorem SB.neOwn {B e s n : Nat} {v : Value} {xs : List Value} (h : SB t N w b f) (ho : w.ownsRow B e s v n xs) (ht : t ≠ e) : v.ownBlock ≠ some b := by
  obtain ⟨cs, h, _⟩ := h
  rcases ho.2 with ⟨rfl, _⟩ | ⟨g, cap, cur, rfl, _, hg, _⟩
  · simp [Value.ownBlock]
  · simp only [Value.ownBlock, ne_eq, Option.some.injEq]
    rintro rfl
    rw [h] at hg
    simp only [Option.some.injEq, Obj.cells.injEq] at hg
    exact ht hg.2.1
end
/-- The row's block, its type, its base. -/
theorem ownsRow_blk {w : World} {B e s n : Nat} {v : Value} {xs : List Value} (h : w.ownsRow B e s v n xs) {g : Nat} (hg : v.ownBlock = some g) : B ≤ g ∧ ∃ cur, w.heap[g]? = some (.cells cur e (0, 0)) := by
  rcases h.2 with ⟨rfl, _⟩ | ⟨g', cap, cur, rfl, hB, hc, _⟩
  · simp [Value.ownBlock] at hg
  · simp only [Value.ownBlock, Option.some.injEq] at hg
    subst hg
    exact ⟨hB, cur, hc⟩
/-- From address a on lie the cells of l. -/
def CellsAt (w : World) (a : Option Addr) (l : List Value) : Prop :=
  ∀ j v, l[j]? = some v → ∃ b off, a = some ⟨b, off, none⟩ ∧ b < w.heap.size ∧ w.cell? ⟨b, off + j, none⟩ = some v
theorem CellsAt.heap {w w' : World} {a : Option Addr} {l : List Value} (h : CellsAt w a l) (e : ∀ b off, a = some ⟨b, off, none⟩ → b < w.heap.size → w'.heap[b]? = w.heap[b]? ∧ b < w'.heap.size) : CellsAt w' a l := by
  intro j v hj
  obtain ⟨b, off, ea, hb, hc⟩ := h j v hj
  obtain ⟨e1, e2⟩ := e b off ea hb
  refine ⟨b, off, ea, e2, ?_⟩
  unfold World.cell? at *
  rw [e1]; exact hc
theorem CellsAt.below {w w' : World} {a : Option Addr} {l : List Value} (h : CellsAt w a l) (hb : Below w.heap.size w w') : CellsAt w' a l :=
  h.heap (fun b _ _ hlt => ⟨hb.block b hlt, Nat.lt_of_lt_of_le hlt hb.size⟩)
theorem CellsAt.row {w : World} {B e s n cap : Nat} {a : Option Addr} {l : List Value} (h : w.ownsRow B e s (.slice a n cap) n l) : CellsAt w a l := by
  intro j v hj
  rcases h.2 with ⟨_, e'⟩ | ⟨g, cap', cur, e', _, hg, _, _, _, ht⟩
  · have hl := h.1
    subst e'
    have : l = [] := List.eq_nil_of_length_eq_zero (by omega)
    subst this
    simp at hj
  · simp only [Value.slice.injEq] at e'
    obtain ⟨rfl, _, _⟩ := e'
    refine ⟨g, 0, rfl, heap_lt hg, ?_⟩
    rw [Nat.zero_add, cells_at hg]
    rw [← ht, List.getElem?_take] at hj
    rw [← Array.getElem?_toList]
    by_cases hlt : j < n * s
    · rw [if_pos hlt] at hj; exact hj
    · rw [if_neg hlt] at hj; cases hj

end Go.Proofs.YtfngdplkcppabaaGreatDoor
