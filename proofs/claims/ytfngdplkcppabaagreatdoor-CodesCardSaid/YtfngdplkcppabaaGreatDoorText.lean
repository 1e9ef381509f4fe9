/-
  gossiplaw: text, take.
-/
import Derived.Test.YtfngdplkcppabaaGreatDoorOwn
import Derived.RegionCalls
import Derived.Deep.RegionWith
namespace Go.Proofs.YtfngdplkcppabaaGreatDoor
open Go.RowKit

/-- Which of n things the raw number c speaks of. -/
def pickS (c n : Int) : Nat := ((if c < 0 then -(c + 1) else c) % n).toNat
theorem pickS_lt (c : Int) (n : Nat) (h : 0 < n) : pickS c n < n := by
  unfold pickS
  have h1 := Int.emod_nonneg (if c < 0 then -(c + 1) else c) (by omega : (n : Int) ≠ 0)
  have h2 := Int.emod_lt_of_pos (if c < 0 then -(c + 1) else c) (by omega : 0 < (n : Int))
  omega
theorem pickS_any (c : Int) (n : Nat) (w : World) (hc : fits c) (hn : 0 < n ∧ n ≤ 1000000) :
    Calls Tryz.prog 19 #[.int .i64 c, .int .i64 n] w fun e w' => e = .returned (.int .i64 (pickS c n)) ∧ w = w' := by
  obtain ⟨hn1, hn2⟩ := hn
  obtain ⟨hc1, hc2⟩ := hc
  by_cases h0 : c < 0
  · have hm := Int.emod_nonneg (-(c + 1)) (by omega : (n : Int) ≠ 0)
    have hl := Int.emod_lt_of_pos (-(c + 1)) (by omega : 0 < (n : Int))
    have hnz : ((n : Int) == 0) = false := by simp; omega
    have e : (pickS c n : Int) = -(c + 1) % n := by unfold pickS; rw [if_pos h0, Int.toNat_of_nonneg hm]
    have E := Lib.hid e
    clear e
    go_enter Tryz.func19, Tryz.ntmps19
    go_wp2
    go_ret
    exact ⟨by rw [E.out, ← Int.tmod_eq_emod_of_nonneg (by omega), Int.neg_tmod]; simp, rfl⟩
  · have hm := Int.emod_nonneg c (by omega : (n : Int) ≠ 0)
    have hl := Int.emod_lt_of_pos c (by omega : 0 < (n : Int))
    have hnz : ((n : Int) == 0) = false := by simp; omega
    have e : (pickS c n : Int) = c % n := by unfold pickS; rw [if_neg h0, Int.toNat_of_nonneg hm]
    have E := Lib.hid e
    clear e
    go_enter Tryz.func19, Tryz.ntmps19
    go_wp2
    go_ret
    exact ⟨by rw [E.out]; rfl, rfl⟩

set_option maxRecDepth 100000 in
set_option maxHeartbeats 1000000 in
theorem text_any (B0 b n : Nat) (w : World) (f : Nat → Value) (d : Sd) (h : SAt B0 b n w f d) (c : Int) (hc : fits c) (hn : n ≤ 1000000) :
    Calls Tryz.prog 13 #[.pointer (some ⟨b, 0, none⟩), .int .i64 c] w fun e w' => ∃ s, e = .returned (.string s) ∧ s.size ≤ 16384 ∧ Below w.heap.size w w' := by
  obtain ⟨a, cap, e0⟩ := h.t0
  have htn := h.tn
  have c0 : w.cell? ⟨b, 0, none⟩ = some (.slice a d.ts.length cap) := by rw [← e0]; exact h.blk.cell (by omega)
  have htr := h.tr
  rw [e0] at htr
  have HR := Lib.hid htr
  have HZ := Lib.hid h.tz
  obtain ⟨ts, hts⟩ : ∃ ts, d.ts = ts := ⟨_, rfl⟩
  rw [hts] at c0 HR HZ htn
  clear htr h e0 hts
  obtain ⟨hc1, hc2⟩ := hc
  cases hl : ts with
  | nil =>
    subst hl
    simp only [List.length_nil] at c0
    go_enter Tryz.func13, Tryz.ntmps13
    go_wp2
    go_ret
    exact ⟨⟨#[]⟩, rfl, by decide, Below.refl _ _⟩
  | cons t0 tl =>
    have hpos : 0 < ts.length := by rw [hl]; simp
    clear hl
    obtain ⟨m, hm⟩ : ∃ m, ts.length = m := ⟨_, rfl⟩
    rw [hm] at c0 HR htn hpos
    have hnz : ((m : Int) == 0) = false := by simp; omega
    obtain ⟨k, hk⟩ : ∃ k, pickS c m = k := ⟨_, rfl⟩
    have hkm := pickS_lt c m hpos
    rw [hk] at hkm
    have hkt : k < ts.length := by omega
    obtain ⟨g, rfl, hg, d1⟩ := row_cell HR.out (v := .string ts[k]) (by rw [List.getElem?_map, List.getElem?_eq_getElem hkt]; rfl)
    obtain ⟨s, hs⟩ : ∃ s, ts[k] = s := ⟨_, rfl⟩
    rw [hs] at d1
    have hsz : s.size ≤ 16384 := by rw [← hs]; exact HZ.out _ (List.getElem_mem _)
    have HM := Lib.hid hm
    clear hm hs
    go_enter Tryz.func13, Tryz.ntmps13
    go_wp2_with fail
    go_region_with (go_at_call 19; refine (pickS_any _ _ _ ⟨hc1, hc2⟩ ⟨hpos, by omega⟩).mono ?_; rintro e w' ⟨rfl, rfl⟩; rw [hk])
    all_goals
      go_wp2
      go_ret
      exact ⟨s, rfl, hsz, (Below.refl _ _).drew⟩
end Go.Proofs.YtfngdplkcppabaaGreatDoor
