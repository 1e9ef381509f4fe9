/-
  reader.take reads a number of some bytes, the high one first, and goes on behind it.
-/
import Derived.Test.YtfngdplkcppabaaGreatDoorBytes
namespace Go.Proofs.YtfngdplkcppabaaGreatDoor
open Go.RowKit

/-- The number of some bytes, the high one first. -/
def numL (l : List UInt8) : Int := l.foldl (fun n b => n * 256 + b.toNat) 0

theorem numL_snoc (l : List UInt8) (b : UInt8) : numL (l ++ [b]) = numL l * 256 + b.toNat := by simp [numL]
theorem numL_go (l : List UInt8) : ∀ n : Int, 0 ≤ n → 0 ≤ l.foldl (fun n b => n * 256 + (b.toNat : Int)) n ∧ l.foldl (fun n b => n * 256 + (b.toNat : Int)) n < (n + 1) * 256 ^ l.length := by
  induction l with
  | nil => intro n h; simp; omega
  | cons b l ih =>
    intro n h
    have hb := b.toNat_lt
    have h' := ih (n * 256 + (b.toNat : Int)) (by omega)
    rw [List.foldl_cons, List.length_cons, Int.pow_succ]
    have hp : (0 : Int) ≤ 256 ^ l.length := Int.pow_nonneg (by omega)
    have hm : (n * 256 + (b.toNat : Int) + 1) * 256 ^ l.length ≤ ((n + 1) * 256) * 256 ^ l.length := Int.mul_le_mul_of_nonneg_right (by omega) hp
    have e : (n + 1) * (256 ^ l.length * 256) = ((n + 1) * 256) * 256 ^ l.length := by rw [Int.mul_assoc, Int.mul_comm (256 ^ l.length) 256]
    omega
theorem numL_bd (l : List UInt8) : 0 ≤ numL l ∧ numL l < 256 ^ l.length := by
  have := numL_go l 0 (by omega)
  simpa [numL] using this
theorem numL_small (l : List UInt8) (h : l.length ≤ 3) : 0 ≤ numL l ∧ numL l < 16777216 := by
  have hb := numL_bd l
  have : l.length = 0 ∨ l.length = 1 ∨ l.length = 2 ∨ l.length = 3 := by omega
  rcases this with e | e | e | e <;> rw [e] at hb <;> simp at hb <;> omega
theorem take_snocB (s : ByteArray) (k : Nat) (h : k < s.size) : s.data.toList.take (k + 1) = s.data.toList.take k ++ [s[k]] := by
  rw [List.take_succ_eq_append_getElem (by simpa using h)]; rfl
theorem or_byte (n : Int) (b : UInt8) (h0 : 0 ≤ n) (h1 : n < 16777216) : bits .or .i64 (wrap64 (n * 256)) (wrap64 (b.toNat : Int)) = n * 256 + b.toNat := by
  have hb := b.toNat_lt
  rw [IntWalk.wrap64_in (n * 256) ⟨by omega, by omega⟩, IntWalk.wrap64_in (b.toNat : Int) ⟨by omega, by omega⟩]
  exact bits_join .i64 40 (by decide) (fun m h₀ h₁ => IntWalk.i64_in m (by omega)) 8 (n * 256) b.toNat (by omega) (by omega) (by omega) (by omega) (by omega) (by omega)

theorem take_any (p wd : Nat) (s : ByteArray) (wi : Int) (w : World) (hp : w.cell? ⟨p, 0, none⟩ = some (.string s)) (hf : w.frozen? ⟨p, 0, none⟩ = false)
    (hwi : wi = wd) (hw : wd ≤ 4) (hs : wd ≤ s.size) (hss : s.size ≤ 100000) :
    Calls Tryz.prog 80 #[.pointer (some ⟨p, 0, none⟩), .int .i64 wi] w fun e w' =>
      e = .returned (.int .i64 (numL (s.data.toList.take wd))) ∧ w.setCell ⟨p, 0, none⟩ (.string (s.extract wd s.size)) = w' := by
  subst hwi
  go_enter Tryz.func80, Tryz.ntmps80
  go_wp2
  go_loop [5, 8] (fun n i => ∃ k : Nat, k ≤ wd ∧ i = .int .i64 k ∧ n = .int .i64 (numL (s.data.toList.take k))) (fun _ i => wd - (intOf i).toNat)
  case atStart => exact ⟨0, Nat.zero_le _, rfl, rfl⟩
  case round =>
    obtain ⟨k, hk, rfl, rfl⟩ := hrel
    by_cases hlt : k < wd
    · have hks : k < s.size := by omega
      obtain ⟨n, hn⟩ : ∃ n, numL (s.data.toList.take k) = n := ⟨_, rfl⟩
      have hbd := numL_small (s.data.toList.take k) (by rw [List.length_take]; omega)
      rw [hn] at hbd ⊢
      have HN := Lib.hid hn
      have HB := Lib.hid hbd
      clear hn hbd
      go_wp2
      go_round
      case rel => exact ⟨k + 1, by omega, by go_num, by
        obtain ⟨h0, h1⟩ := HB.out
        rw [take_snocB s k hks, numL_snoc, HN.out, or_byte n s[k] h0 (by omega)]⟩
      case measure => simp [intOf]; omega
    · have hk' : k = wd := by omega
      go_wp2
      go_ret
      exact ⟨rfl, rfl⟩
end Go.Proofs.YtfngdplkcppabaaGreatDoor
