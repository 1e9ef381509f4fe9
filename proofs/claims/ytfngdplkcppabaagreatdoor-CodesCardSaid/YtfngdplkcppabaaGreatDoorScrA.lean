/-
  gossiplaw: num, told, keys, pick.
-/
import Derived.Test.YtfngdplkcppabaaGreatDoorRefDecode
import Derived.Test.YtfngdplkcppabaaGreatDoorTold
import Derived.Deep.QuietTactic
import Derived.BigQuiet
namespace Go.Proofs.YtfngdplkcppabaaGreatDoor
open Go.RowKit

/-- errors.errorType as the program's text lays it. -/
def ErrType (w : World) : Prop := w.cell? ⟨0, 0, none⟩ = some (.iface 219 (.agg #[.pointer (some ⟨1, 64, none⟩)]))
theorem ErrType.lt {w : World} (h : ErrType w) : 0 < w.heap.size := World.block_lt_of_cell? _ _ h
theorem ErrType.below {w w' : World} (h : ErrType w) (hb : Below w.heap.size w w') : ErrType w' := by
  have hl := h.lt
  unfold ErrType at *
  rw [hb.cell hl]; exact h

theorem below_drewN {B : Nat} {w w' : World} (h : Below B w w') (n : Nat) : Below B w (w'.drewN n) := ⟨h.os, h.tape, h.output, h.size, fun k hk => h.block k hk⟩
theorem num_any (n : Int) (w : World) : Calls Tryz.prog 50 #[.int .i64 n] w fun e w' => e = .returned (.int .i64 n) ∧ w = w' := by
  go_enter Tryz.func50, Tryz.ntmps50
  go_wp2
  go_ret
  exact ⟨rfl, rfl⟩

theorem ltold_ok (w : World) : Calls Tryz.prog 26 #[.nilIface, .int .i64 0] w fun e w' => e = .returned (.bool true) ∧ w = w' := by
  go_enter Tryz.func26, Tryz.ntmps26
  go_wp2_with fail
  refine (told_nil _).mono ?_
  rintro e w1 ⟨rfl, rfl⟩
  go_wp2_with fail
  refine (num_any _ _).mono ?_
  rintro e w1 ⟨rfl, rfl⟩
  go_wp2
  go_ret
  exact ⟨rfl, rfl⟩

theorem ltold_err (n : Int) (w : World) (hn : n ≠ 0) (hg : ErrType w) :
    Calls Tryz.prog 26 #[.iface 111 (.int .i64 n), .int .i64 n] w fun e w' => e = .returned (.bool true) ∧ Below w.heap.size w w' := by
  have HG := Lib.hid hg
  have hn0 : (n == 0) = false := by simp [hn]
  clear hg hn
  go_enter Tryz.func26, Tryz.ntmps26
  go_wp2_with fail
  refine (told_errno n _ HG.out).mono ?_
  rintro e w1 ⟨rfl, hb⟩
  have HB := Lib.hid hb
  clear hb
  go_wp2_with fail
  refine (num_any _ _).mono ?_
  rintro e w2 ⟨rfl, rfl⟩
  go_wp2
  go_ret
  exact ⟨rfl, HB.out⟩

theorem pick_any' (c n : Int) (w : World) (hc : -9223372036854775808 ≤ c ∧ c ≤ 9223372036854775807) (hn : 0 < n ∧ n ≤ 9223372036854775807) :
    Calls Tryz.prog 19 #[.int .i64 c, .int .i64 n] w fun e w' => ∃ k : Nat, e = .returned (.int .i64 k) ∧ (k : Int) < n ∧ w = w' := by
  obtain ⟨hn1, hn2⟩ := hn
  obtain ⟨hc1, hc2⟩ := hc
  by_cases h0 : c < 0
  · have hm := Int.emod_nonneg (-(c + 1)) (by omega : n ≠ 0)
    have hl := Int.emod_lt_of_pos (-(c + 1)) hn1
    have hnz : (n == 0) = false := by simp; omega
    go_enter Tryz.func19, Tryz.ntmps19
    go_wp2
    go_ret
    exact ⟨((-(c + 1)) % n).toNat, by rw [Int.toNat_of_nonneg hm, ← Int.tmod_eq_emod_of_nonneg (by omega), Int.neg_tmod]; simp, by omega, rfl⟩
  · have hm := Int.emod_nonneg c (by omega : n ≠ 0)
    have hl := Int.emod_lt_of_pos c hn1
    have hnz : (n == 0) = false := by simp; omega
    go_enter Tryz.func19, Tryz.ntmps19
    go_wp2
    go_ret
    exact ⟨(c % n).toNat, by simp [Int.toNat_of_nonneg hm], by omega, rfl⟩

set_option maxHeartbeats 1000000 in
theorem keys_same (l : List K) (a b : Option Addr) (n cap cap' : Nat) (w : World) (hn : l.length = n) (hl : n ≤ 9223372036854775807) (ha : KeysAt w a l) (hb : KeysAt w b l) :
    Calls Tryz.prog 30 #[.slice a n cap, .slice b n cap'] w fun e w' => e = .returned (.bool true) ∧ Below w.heap.size w w' := by
  have HA := Lib.hid ha
  have HB := Lib.hid hb
  have HN := Lib.hid hn
  clear ha hb hn
  go_enter Tryz.func30, Tryz.ntmps30
  go_wp2
  go_loopw [5] (fun i wr => ∃ k : Nat, k ≤ n ∧ i = .int .i64 k ∧ Below w.heap.size w wr) (fun i _ => n - (intOf i).toNat)
  case atStart => exact ⟨0, Nat.zero_le _, rfl, Below.refl _ _⟩
  case round =>
    obtain ⟨k, hkl, rfl, hb⟩ := hrel
    by_cases hlt : k < n
    · have hlt' : k < l.length := by have := HN.out; omega
      obtain ⟨b1, off1, rfl, hb1, c0, c1, c2⟩ := HA.out k l[k] (List.getElem?_eq_getElem hlt')
      obtain ⟨b2, off2, rfl, hb2, d0, d1, d2⟩ := HB.out k l[k] (List.getElem?_eq_getElem hlt')
      rw [← hb.cell hb1] at c0 c1 c2
      rw [← hb.cell hb2] at d0 d1 d2
      have HBB := Lib.hid hb
      clear hb
      go_wp2
      go_quiet (fail)
      go_wp2
      go_roundw
      case rel => exact ⟨k + 1, by omega, by go_num, below_drewN HBB.out _⟩
      case measure => simp [intOf]; omega
    · have hk' : k = n := by omega
      go_wp2
      go_ret
      exact ⟨rfl, hb⟩
end Go.Proofs.YtfngdplkcppabaaGreatDoor
