/-
  gossipkeep.same: of two messages that read the same it says so.
-/
import Derived.Test.YtfngdplkcppabaaDoorCodec
import Derived.BigQuiet
import Derived.Deep.QuietTactic
namespace Go.Proofs.YtfngdplkcppabaaDoor
open Go.RowKit

set_option maxHeartbeats 1000000 in
theorem same_eq (m : M) (a a' : Option Addr) (n cap cap' : Nat) (w : World) (hn : m.ups.length = n) (hl : n ≤ 9223372036854775807) (hk : KeysAt w a m.ups) (hk' : KeysAt w a' m.ups) :
    Calls Tryd.prog 9 #[.agg #[.int .i64 m.kind, .int .i64 m.frm, .int .i64 m.inc, .int .i64 m.seq, .int .i64 m.tgt, .slice a n cap], .agg #[.int .i64 m.kind, .int .i64 m.frm, .int .i64 m.inc, .int .i64 m.seq, .int .i64 m.tgt, .slice a' n cap']] w fun e w' =>
      e = .returned (.bool true) ∧ Below w.heap.size w w' := by
  obtain ⟨kind, frm, inc, seq, tgt, ups⟩ := m
  simp only at hn hk hk' ⊢
  have HK := Lib.hid hk
  have HK' := Lib.hid hk'
  have HN := Lib.hid hn
  clear hk hk' hn
  go_enter Tryd.func9, Tryd.ntmps9
  go_wp2
  obtain ⟨wb, hwb⟩ : ∃ wb, wb = (w.alloc (.cells #[.int .i64 kind, .int .i64 frm, .int .i64 inc, .int .i64 seq, .int .i64 tgt, .slice a n cap] 25)).alloc (.cells #[.int .i64 kind, .int .i64 frm, .int .i64 inc, .int .i64 seq, .int .i64 tgt, .slice a' n cap'] 25) := ⟨_, rfl⟩
  rw [← hwb]
  have HWB := Lib.hid hwb
  clear hwb
  go_loopw [5] (fun i wr => ∃ k : Nat, k ≤ n ∧ i = .int .i64 k ∧ Below (w.heap.size + 1 + 1) wb wr) (fun i _ => n - (intOf i).toNat)
  case atStart => exact ⟨0, Nat.zero_le _, rfl, Below.refl _ _⟩
  case round =>
    obtain ⟨k, hkn, rfl, hb⟩ := hrel
    have h1 : wr.heap[w.heap.size]? = some (.cells #[.int .i64 kind, .int .i64 frm, .int .i64 inc, .int .i64 seq, .int .i64 tgt, .slice a n cap] 25 (0, 0)) := (hb.block _ (by omega)).trans (by rw [HWB.out]; exact heap_old _ (heap_new _ _ rfl))
    have h2 : wr.heap[w.heap.size + 1]? = some (.cells #[.int .i64 kind, .int .i64 frm, .int .i64 inc, .int .i64 seq, .int .i64 tgt, .slice a' n cap'] 25 (0, 0)) := (hb.block _ (by omega)).trans (by rw [HWB.out]; exact heap_new _ _ (by simp))
    have c1 := cells_at h1 5
    have c2 := cells_at h2 5
    simp only [List.getElem?_toArray, List.getElem?_cons_succ, List.getElem?_cons_zero] at c1 c2
    have hbw : Below w.heap.size w wr := by
      have := hb.mono (B' := w.heap.size) (by omega)
      rw [HWB.out] at this
      exact (((Below.refl _ w).alloc (Nat.le_refl _) _).alloc (by simp) _).trans this
    have HB := Lib.hid hb
    have HBW := Lib.hid hbw
    clear h1 h2 hb hbw
    by_cases hlt : k < n
    · have hku : k < ups.length := by rw [HN.out]; exact hlt
      obtain ⟨b, off, rfl, hbl, k0, k1, k2⟩ := HK.out k ups[k] (List.getElem?_eq_getElem hku)
      obtain ⟨b', off', rfl, hbl', k0', k1', k2'⟩ := HK'.out k ups[k] (List.getElem?_eq_getElem hku)
      obtain ⟨x, hx⟩ : ∃ x, ups[k] = x := ⟨_, rfl⟩
      rw [hx] at k0 k1 k2 k0' k1' k2'
      clear hx
      rw [← HBW.out.cell hbl] at k0 k1 k2
      rw [← HBW.out.cell hbl'] at k0' k1' k2'
      have hki : (k : Int) < (n : Int) := by omega
      have hk0 : (0 : Int) ≤ (k : Int) := by omega
      go_wp2
      go_quiet (fail)
      go_wp2
      go_roundw
      case rel => exact ⟨k + 1, by omega, by go_num, ⟨HB.out.os, HB.out.tape, HB.out.output, HB.out.size, HB.out.block⟩⟩
      case measure => simp [intOf]; omega
    · go_wp2
      go_ret
      exact ⟨rfl, HBW.out⟩
end Go.Proofs.YtfngdplkcppabaaDoor
