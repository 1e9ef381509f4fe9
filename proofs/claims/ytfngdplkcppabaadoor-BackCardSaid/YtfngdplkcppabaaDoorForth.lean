/-
  gossipkeep.Forth: what is decoded is encoded to the same bytes. THE WALK.
-/
import Derived.Test.YtfngdplkcppabaaDoorPlainW
import Derived.Test.YtfngdplkcppabaaDoorCodec
import Derived.Test.YtfngdplkcppabaaDoorTold
namespace Go.Proofs.YtfngdplkcppabaaDoor
open Go.RowKit

/-- errors.errorType as the program's text lays it. -/
def ErrType (w : World) : Prop := w.cell? ⟨0, 0, none⟩ = some (.iface 69 (.agg #[.pointer (some ⟨1, 28, none⟩)]))
theorem ErrType.lt {w : World} (h : ErrType w) : 0 < w.heap.size := World.block_lt_of_cell? _ _ h
theorem ErrType.below {w w' : World} (h : ErrType w) (hb : Below w.heap.size w w') : ErrType w' := by
  have hl := h.lt
  unfold ErrType at *
  rw [hb.cell hl]; exact h

theorem bytes_ext {s t : ByteArray} (h : s.data.toList = t.data.toList) : s = t := by
  cases s; cases t; simp at h; simp [h]
theorem encoded_back {s : ByteArray} (h : sizedB s.data.toList = true) : strOfNums (msgBytes (rawMsg s.data.toList)) = s :=
  bytes_ext (by rw [strOfNums_list, forth_plain h])
theorem decode_some {bs : List UInt8} {m : M} (h : decodeM bs = some m) : m = rawMsg bs ∧ sizedB bs = true ∧ wholeB m = true := by
  unfold decodeM at h
  split at h
  · rename_i hh
    cases h
    exact ⟨rfl, hh.1, hh.2⟩
  · cases h

set_option maxHeartbeats 1000000 in
theorem forth_any (s : ByteArray) (w : World) (hm : s.size ≤ maxLen) (hg : ErrType w) :
    Calls Tryd.prog 4 #[.string s] w fun e w' => e = .returned (.bool true) ∧ Below w.heap.size w w' := by
  have HG := Lib.hid hg
  clear hg
  go_enter Tryd.func4, Tryd.ntmps4
  go_wp2_with fail
  refine (decode_any s _ hm).mono ?_
  rintro e w1 ⟨hb, h⟩
  have HB := Lib.hid hb
  clear hb
  rcases h with ⟨hd, rfl⟩ | ⟨hd, v, rfl, hrow⟩
  · clear hd
    unfold noMsg
    go_wp2_with fail
    refine (told_errno 2 _ ((HG.out.below HB.out).below ((Below.refl _ _).alloc (Nat.le_refl _) _))).mono ?_
    rintro e w2 ⟨rfl, hb2⟩
    have hc := cells_at ((hb2.block w1.heap.size (by simp)).trans (heap_alloc_eq w1 _))
    have HB2 := Lib.hid hb2
    clear hb2
    go_wp2
    go_ret
    exact ⟨rfl, HB.out.trans ((below_of_alloc (HB2.out.mono (by simp))).mono HB.out.size)⟩
  · obtain ⟨hm1, hsz, hw⟩ := decode_some hd
    obtain ⟨a, cap, rfl⟩ := ownsRow_sl hrow
    obtain ⟨hlen, hka⟩ := keysAt_row hrow
    have hback := encoded_back hsz
    obtain ⟨hk, _⟩ := whole_fields hw
    have hk0 : 0 < (rawMsg s.data.toList).kind := by omega
    obtain ⟨m, hmm⟩ : ∃ m, rawMsg s.data.toList = m := ⟨_, rfl⟩
    rw [hmm] at hw hlen hka hback hk0 ⊢
    have HW := Lib.hid hw
    have HK := Lib.hid (hka.below ((Below.refl _ _).alloc (Nat.le_refl _) (.cells #[.int .i64 m.kind, .int .i64 m.frm, .int .i64 m.inc, .int .i64 m.seq, .int .i64 m.tgt, .slice a m.ups.length cap] 25)))
    have HBK := Lib.hid hback
    clear hd hm1 hsz hw hlen hka hback hk hmm hrow
    unfold M.agg
    go_wp2_with fail
    refine (encode_yes m a m.ups.length cap _ rfl HK.out HW.out).mono ?_
    rintro e w2 ⟨rfl, hb2⟩
    rw [HBK.out]
    have hc := cells_at ((hb2.block w1.heap.size (by simp)).trans (heap_alloc_eq w1 _))
    have HB2 := Lib.hid hb2
    clear hb2
    go_wp2
    go_ret
    exact ⟨rfl, HB.out.trans ((below_of_alloc (HB2.out.mono (by simp))).mono HB.out.size)⟩
end Go.Proofs.YtfngdplkcppabaaDoor
