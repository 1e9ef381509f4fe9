/-
  Arguments that are lists of numbers, opened.
-/
import Derived.Test.YtfngdplkcppabaaGreatPart04
import Derived.Deep.Slices
import Derived.ChangeSame
import Derived.Lib.SmallJoins
import Derived.ProofKit
set_option linter.all false
namespace Go.Proofs.YtfngdplkcppabaaGreat
open Go.Joins Go.ChangeShapes Go.WideShapes Go.RowKit Go.Deep

theorem fits_wf {x : Int} (h : (Lit.int .i64 x).wf = true) : -9223372036854775808 ≤ x ∧ x ≤ 9223372036854775807 := by
  simpa [Lit.wf, IntKind.min, IntKind.max, IntKind.signed, IntKind.bits] using h
/-- A list of numbers. -/
theorem row_nums {w : World} {o : Option Addr} {len cap : Nat} {zs : List Int}
    (h : (o = none ∧ len = 0 ∧ cap = 0 ∧ zs = []) ∨ ∃ x, o = some x ∧ len ≤ cap ∧ cap ≤ maxLen ∧ zs.length = cap ∧ (∀ i, i < zs.length → w.cell? (x.add i) = some (.int .i64 (zs.getD i 0))) ∧ ∀ n ∈ zs, (Lit.int .i64 n).wf = true) :
    ∃ l : List Int, l.length = len ∧ len ≤ maxLen ∧ CellsAt w o (l.map (Value.int .i64)) ∧ ∀ v ∈ l, fitsI v := by
  rcases h with ⟨rfl, rfl, rfl, rfl⟩ | ⟨a, rfl, hl, hm, hz, hcell, hwz⟩
  · exact ⟨[], rfl, Nat.zero_le _, fun i o hk => (by simp at hk), fun k hk => (by simp at hk)⟩
  · have hzl : len ≤ zs.length := by omega
    have htl : (zs.take len).length = len := by rw [List.length_take]; omega
    refine ⟨zs.take len, htl, by omega, fun j u hu => ?_, fun v hv => ?_⟩
    · rw [List.getElem?_map, List.getElem?_take] at hu
      split at hu
      · rename_i hj
        have hjz : j < zs.length := by omega
        rw [List.getElem?_eq_getElem hjz] at hu
        simp only [Option.map_some, Option.some.injEq] at hu
        subst hu
        have hc := hcell j hjz
        rw [List.getD_eq_getElem?_getD, List.getElem?_eq_getElem hjz, Option.getD_some] at hc
        obtain ⟨b, off, spot⟩ := a
        have h0 := hcell 0 (by omega)
        have e0 : (⟨b, off, spot⟩ : Addr).add 0 = ⟨b, off, spot⟩ := by simp [Addr.add]
        rw [e0] at h0
        have hb : spot = none ∧ b < w.heap.size := by
          refine ⟨?_, World.block_lt_of_cell? _ _ h0⟩
          unfold World.cell? at h0
          split at h0
          · split at h0
            · cases h0
            · rename_i hs; simpa using hs
          · cases h0
        obtain ⟨rfl, hbl⟩ := hb
        exact ⟨b, off, rfl, hbl, by have : (⟨b, off, none⟩ : Addr).add j = ⟨b, off + j, none⟩ := by unfold Addr.add; split <;> simp_all
                                    rw [this] at hc; exact hc⟩
      · simp at hu
    · have := fits_wf (hwz v (List.mem_of_mem_take hv))
      unfold fitsI; omega
end Go.Proofs.YtfngdplkcppabaaGreat
