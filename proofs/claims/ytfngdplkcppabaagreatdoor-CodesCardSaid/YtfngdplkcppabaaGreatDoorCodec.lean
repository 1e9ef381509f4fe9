/-
  gossip.Encode and gossip.Decode.
-/
import Derived.Test.YtfngdplkcppabaaGreatDoorMessage
namespace Go.Proofs.YtfngdplkcppabaaGreatDoor
open Go.RowKit

theorem whole_len {m : M} (h : wholeB m = true) : m.ups.length ≤ 8 := by
  unfold wholeB at h
  simp only [Bool.and_eq_true, Bool.not_eq_true', decide_eq_false_iff_not] at h
  have h2 := h.1.1.1.1.2
  rcases roomI_cases m.kind with hr | hr | hr <;> rw [hr] at h2 <;> omega

theorem encode_yes (m : M) (a : Option Addr) (n cap : Nat) (w : World) (hn : m.ups.length = n) (hk : KeysAt w a m.ups) (hw : wholeB m = true) :
    Calls Tryz.prog 23 #[.agg #[.int .i64 m.kind, .int .i64 m.frm, .int .i64 m.inc, .int .i64 m.seq, .int .i64 m.tgt, .slice a n cap]] w fun e w' =>
      e = .returned (.tuple #[.string (strOfNums (msgBytes m)), .nilIface]) ∧ Below w.heap.size w w' := by
  have h8 := whole_len hw
  have HW := Lib.hid hw
  have HN := Lib.hid hn
  have hk1 := hk.below ((Below.refl _ w).alloc (Nat.le_refl _) (.cells #[.int .i64 m.kind, .int .i64 m.frm, .int .i64 m.inc, .int .i64 m.seq, .int .i64 m.tgt, .slice a n cap] 68))
  have HK := Lib.hid hk1
  clear hw hk1 hk hn
  go_enter Tryz.func23, Tryz.ntmps23
  go_wp2_with fail
  refine (whole_at m a n cap _ HN.out (by have := HN.out; omega) HK.out).mono ?_
  rintro e w1 ⟨rfl, hb⟩
  rw [HW.out]
  have hbx : w1.heap[w.heap.size]? = _ := (hb.block _ (by simp)).trans (heap_alloc_eq w _)
  have hcx := cells_at hbx
  have HB := Lib.hid hb
  have HK1 := Lib.hid (HK.out.below hb)
  clear hb hbx
  go_wp2_with fail
  have hB : Calls Tryz.prog 46 #[.agg #[.int .i64 m.kind, .int .i64 m.frm, .int .i64 m.inc, .int .i64 m.seq, .int .i64 m.tgt, .slice a n cap]] w1 fun e w' =>
      e = .returned (.string (strOfNums (msgBytes m))) ∧ Below w1.heap.size w1 w' := by
    have := bytes_any m.kind m.frm m.inc m.seq m.tgt m.ups a cap w1 h8 HK1.out
    rw [HN.out] at this
    exact this
  refine hB.mono ?_
  rintro e w2 ⟨rfl, hb2⟩
  have HB2 := Lib.hid hb2
  clear hb2 hB
  go_wp2
  go_ret2
  exact ⟨rfl, below_of_alloc (((HB.out.mono (by simp)).trans (HB2.out.mono (by have := HB.out.size; simp at this; omega))))⟩

theorem encode_no (m : M) (a : Option Addr) (n cap : Nat) (w : World) (hn : m.ups.length = n) (hl : n ≤ 9223372036854775807) (hk : KeysAt w a m.ups) (hw : wholeB m = false) :
    Calls Tryz.prog 23 #[.agg #[.int .i64 m.kind, .int .i64 m.frm, .int .i64 m.inc, .int .i64 m.seq, .int .i64 m.tgt, .slice a n cap]] w fun e w' =>
      e = .returned (.tuple #[.string ⟨#[]⟩, .iface 111 (.int .i64 2)]) ∧ Below w.heap.size w w' := by
  have HW := Lib.hid hw
  have HN := Lib.hid hn
  have hk1 := hk.below ((Below.refl _ w).alloc (Nat.le_refl _) (.cells #[.int .i64 m.kind, .int .i64 m.frm, .int .i64 m.inc, .int .i64 m.seq, .int .i64 m.tgt, .slice a n cap] 68))
  have HK := Lib.hid hk1
  clear hw hk1 hk hn
  go_enter Tryz.func23, Tryz.ntmps23
  go_wp2_with fail
  refine (whole_at m a n cap _ HN.out hl HK.out).mono ?_
  rintro e w1 ⟨rfl, hb⟩
  rw [HW.out]
  have HB := Lib.hid hb
  clear hb
  go_wp2
  go_ret2
  exact ⟨rfl, below_of_alloc (HB.out.mono (by simp))⟩

theorem decode_any (s : ByteArray) (w : World) (hm : s.size ≤ maxLen) : Calls Tryz.prog 28 #[.string s] w (DecPost w s.data.toList) := by
  go_enter Tryz.func28, Tryz.ntmps28
  go_wp2_with fail
  refine (message_any s _ hm).mono ?_
  rintro e w1 ⟨hb, h⟩
  have hbx : w1.heap[w.heap.size]? = _ := (hb.block _ (by simp)).trans (heap_alloc_eq w _)
  have hcx := cells_at hbx
  have hfx := unfrozen hbx
  have HX := Lib.hid hbx
  have hsz := hb.size
  rw [World.size_alloc] at hsz
  have hBB := below_of_alloc (hb.mono (by simp))
  have HBB := Lib.hid hBB
  clear hbx hb hBB
  rcases h with ⟨hd, rfl⟩ | ⟨hd, v, rfl, hrow⟩
  · have HD := Lib.hid hd
    clear hd
    unfold noMsg
    go_wp2
    refine six_set (R := bodyPost _ _ _ _ _) HX.out _ _ _ _ _ _ (fun W hW hC => ?_)
    have hc := cells_at hW
    refine bodyPost_ret (v := .tuple #[noMsg, .iface 111 (.int .i64 2)]) (by simp [results, Tryz.results28, go_sem, noMsg, hc]) rfl ⟨?_, .inl ⟨HD.out, rfl⟩⟩
    exact HBB.out.trans (hC.below (by omega) (fun k o e => by omega))
  · have HD := Lib.hid hd
    obtain ⟨a, cap, rfl⟩ := ownsRow_sl hrow
    have HR := Lib.hid hrow
    clear hd hrow
    unfold M.agg
    go_wp2
    refine six_set (R := bodyPost _ _ _ _ _) HX.out _ _ _ _ _ _ (fun W hW hC => ?_)
    have hc := cells_at hW
    refine bodyPost_ret (v := .tuple #[(rawMsg s.data.toList).agg (.slice a (rawMsg s.data.toList).ups.length cap), .nilIface]) (by simp [results, Tryz.results28, go_sem, M.agg, hc]) rfl ⟨?_, .inr ⟨HD.out, _, rfl, ?_⟩⟩
    · exact HBB.out.trans (hC.below (by omega) (fun k o e => by omega))
    · exact own_below (own_chg HR.out hC (fun g o hg e => by have := (HR.out.lt g hg).1; simp at this; omega)) (by simp)
end Go.Proofs.YtfngdplkcppabaaGreatDoor
