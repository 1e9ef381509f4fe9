/-
  gossipref: four, number.
-/
import Derived.Test.YtfngdplkcppabaaGreatDoorRefWhole
namespace Go.Proofs.YtfngdplkcppabaaGreatDoor
open Go.RowKit

theorem mask255 (n : Int) (h0 : 0 ≤ n) (h1 : n ≤ 1099511627775) : bits .and .i64 n 255 = n % 256 :=
  bits_mask .i64 40 (by decide) (fun m h₀ h₁ => IntWalk.i64_in m (by omega)) 8 (by decide) n (by omega) (by omega)
theorem conv_new (w : World) (bs : List Int) (n : Nat) (hn : bs.length = n) :
    (convert 56 9 (.slice (some ⟨w.heap.size, 0, none⟩) n n)).run Tryz.prog (w.alloc (.cells (bs.map byteV).toArray 5)) = .ok (.string (strOfNums bs)) (w.alloc (.cells (bs.map byteV).toArray 5)) := by
  refine run_convert_bytes_arg _ _ 5 Tryz.underlying56 Tryz.underlying5 w.heap.size 0 n n bs hn (fun i hi => ?_) _ Tryz.underlying9
  rw [Nat.zero_add, cells_at (heap_alloc_eq w _)]
  have hi' : i < bs.length := by omega
  simp [byteV, List.getD, hi']
theorem conv_new4 (w : World) (a b c d : Int) (q : Nat) (hq : q = w.heap.size) :
    (convert 56 9 (.slice (some ⟨q, 0, none⟩) 4 4)).run Tryz.prog (w.alloc (.cells #[.int .u8 a, .int .u8 b, .int .u8 c, .int .u8 d] 5)) = .ok (.string (strOfNums [a, b, c, d])) (w.alloc (.cells #[.int .u8 a, .int .u8 b, .int .u8 c, .int .u8 d] 5)) := by subst hq; exact conv_new w [a, b, c, d] 4 rfl
theorem conv_new2 (w : World) (a b : Int) (q : Nat) (hq : q = w.heap.size) :
    (convert 56 9 (.slice (some ⟨q, 0, none⟩) 2 2)).run Tryz.prog (w.alloc (.cells #[.int .u8 a, .int .u8 b] 5)) = .ok (.string (strOfNums [a, b])) (w.alloc (.cells #[.int .u8 a, .int .u8 b] 5)) := by subst hq; exact conv_new w [a, b] 2 rfl
theorem conv_new1 (w : World) (a : Int) (q : Nat) (hq : q = w.heap.size) :
    (convert 56 9 (.slice (some ⟨q, 0, none⟩) 1 1)).run Tryz.prog (w.alloc (.cells #[.int .u8 a] 5)) = .ok (.string (strOfNums [a])) (w.alloc (.cells #[.int .u8 a] 5)) := by subst hq; exact conv_new w [a] 1 rfl

set_option maxRecDepth 100000 in
theorem rfour_any (n : Int) (w : World) (h0 : 0 ≤ n) (h1 : n ≤ 4294967295) :
    Calls Tryz.prog 51 #[.int .i64 n] w fun e w' => e = .returned (.string (strOfNums (be 4 n))) ∧ Below w.heap.size w w' := by
  have e1 := mask255 (n / 16777216) (by omega) (by omega)
  have e2 := mask255 (n / 65536) (by omega) (by omega)
  have e3 := mask255 (n / 256) (by omega) (by omega)
  have e4 := mask255 n (by omega) (by omega)
  go_enter Tryz.func51, Tryz.ntmps51
  go_wp2
  rw [conv_new4 _ _ _ _ _ _ rfl]
  go_wp2
  go_ret
  refine ⟨by rw [be4]; rfl, (Below.refl _ _).alloc (Nat.le_refl _) _⟩

set_option maxRecDepth 100000 in
theorem rnumber_any (s : ByteArray) (w : World) (h : s.size = 4) :
    Calls Tryz.prog 53 #[.string s] w fun e w' => e = .returned (.int .i64 (numL s.data.toList)) ∧ w = w' := by
  go_enter Tryz.func53, Tryz.ntmps53
  go_wp2
  go_loop [3, 4] (fun n i => ∃ k : Nat, k ≤ 4 ∧ i = .int .i64 k ∧ n = .int .i64 (numL (s.data.toList.take k))) (fun _ i => 4 - (intOf i).toNat)
  case atStart => exact ⟨0, Nat.zero_le _, rfl, rfl⟩
  case round =>
    obtain ⟨k, hk, rfl, rfl⟩ := hrel
    by_cases hlt : k < 4
    · have hks : k < s.size := by omega
      obtain ⟨n, hn⟩ : ∃ n, numL (s.data.toList.take k) = n := ⟨_, rfl⟩
      have hbd := numL_small (s.data.toList.take k) (by rw [List.length_take]; omega)
      rw [hn] at hbd ⊢
      have hb := s[k].toNat_lt
      have HN := Lib.hid hn
      clear hn
      go_wp2
      go_round
      case rel => exact ⟨k + 1, by omega, by go_num, by
        rw [take_snocB s k hks, numL_snoc, HN.out]; go_num⟩
      case measure => simp [intOf]; omega
    · have hk' : k = 4 := by omega
      go_wp2
      go_ret
      refine ⟨?_, rfl⟩
      have e : s.data.toList.take 4 = s.data.toList := List.take_of_length_le (by simp; omega)
      rw [e]; rfl
end Go.Proofs.YtfngdplkcppabaaGreatDoor
