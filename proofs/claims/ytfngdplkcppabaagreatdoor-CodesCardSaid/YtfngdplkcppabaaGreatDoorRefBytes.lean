/-
  gossipref: Message.Bytes.
-/
import Derived.Test.YtfngdplkcppabaaGreatDoorRefNum
namespace Go.Proofs.YtfngdplkcppabaaGreatDoor
open Go.RowKit

theorem str_size (a : List Int) : (strOfNums a).size = a.length := by simp [strOfNums, ByteArray.size]
theorem str_add (a b : List Int) : strOfNums a ++ strOfNums b = strOfNums (a ++ b) := by
  apply ByteArray.ext
  simp [strOfNums]

set_option maxRecDepth 100000 in
set_option maxHeartbeats 2000000 in
theorem rbytes_any (kind frm inc seq tgt : Int) (l : List K) (a : Option Addr) (cap : Nat) (w : World) (hl : l.length ≤ 1000000) (hk : KeysAt w a l)
    (hi : 0 ≤ inc ∧ inc ≤ 4294967295) (hs : 0 ≤ seq ∧ seq ≤ 4294967295) (hu : ∀ k ∈ l, 0 ≤ k.inc ∧ k.inc ≤ 4294967295) :
    Calls Tryz.prog 27 #[.agg #[.int .i64 kind, .int .i64 frm, .int .i64 inc, .int .i64 seq, .int .i64 tgt, .slice a l.length cap]] w fun e w' =>
      e = .returned (.string (strOfNums (msgBytes ⟨kind, frm, inc, seq, tgt, l⟩))) ∧ Below w.heap.size w w' := by
  have HK := Lib.hid hk
  have HU := Lib.hid hu
  have HI := Lib.hid hi
  have HS := Lib.hid hs
  clear hk hu hi hs
  have hz4 : ∀ n, (strOfNums (be 4 n)).size = 4 := fun n => by rw [str_size, be_length]
  have hz2 : ∀ x y, (strOfNums [x, y]).size = 2 := fun x y => by rw [str_size]; rfl
  have hz1 : ∀ x, (strOfNums [x]).size = 1 := fun x => by rw [str_size]; rfl
  have hza : ∀ s t : ByteArray, (s ++ t).size = s.size + t.size := fun s t => ByteArray.size_append
  go_enter Tryz.func27, Tryz.ntmps27
  go_wp2_with fail
  rw [conv_new2]
  rotate_left
  · simp
  go_wp2_with fail
  refine (rfour_any _ _ HI.out.1 HI.out.2).mono ?_
  rintro e w1 ⟨rfl, hb1⟩
  have hx1 : w1.heap[w.heap.size]? = _ := (hb1.block _ (by simp; omega)).trans (heap_old _ (heap_alloc_eq w _))
  have hc1 := cells_at hx1
  have hB1 : Below w.heap.size w w1 := below_of_alloc (below_of_alloc (hb1.mono (by simp)) |>.mono (by simp))
  have HX1 := Lib.hid hx1
  have HB1 := Lib.hid hB1
  clear hb1 hx1 hB1
  go_wp2_with fail
  refine (rfour_any _ _ HS.out.1 HS.out.2).mono ?_
  rintro e w2 ⟨rfl, hb2⟩
  have hx2 : w2.heap[w.heap.size]? = _ := (hb2.block _ (heap_lt HX1.out)).trans HX1.out
  have hc2 := cells_at hx2
  have hB2 : Below w.heap.size w w2 := HB1.out.trans (hb2.mono HB1.out.size)
  have HX2 := Lib.hid hx2
  have HB2 := Lib.hid hB2
  clear hb2 hx2 hB2 HX1 HB1 hc1
  go_wp2_with fail
  rw [conv_new2 _ _ _ _ rfl]
  go_wp2_with fail
  go_loopw [3, 6] (fun s i wr => ∃ k : Nat, k ≤ l.length ∧ i = .int .i64 k ∧ s = .string (strOfNums (headBytes kind frm inc seq tgt l.length ++ (l.take k).flatMap keyBytes)) ∧ Below w.heap.size w wr ∧ wr.heap[w.heap.size]? = some (.cells #[.int .i64 kind, .int .i64 frm, .int .i64 inc, .int .i64 seq, .int .i64 tgt, .slice a l.length cap] 33 (0, 0))) (fun _ i _ => l.length - (intOf i).toNat)
  case atStart =>
    refine ⟨0, Nat.zero_le _, rfl, ?_, HB2.out.alloc HB2.out.size _, heap_old _ HX2.out⟩
    simp [str_add, headBytes, be1]
  case round =>
    obtain ⟨k, hkl, rfl, rfl, hb, hbx⟩ := hrel
    clear hc2
    have hcx := cells_at hbx
    have HX := Lib.hid hbx
    have HB := Lib.hid hb
    by_cases hlt : k < l.length
    · obtain ⟨b, off, rfl, hbl, c0, c1, c2⟩ := HK.out k l[k] (List.getElem?_eq_getElem hlt)
      have hsz := hb.size
      have hsx := heap_lt hbx
      rw [← hb.cell hbl] at c0 c1 c2
      have hzz : (strOfNums (headBytes kind frm inc seq tgt l.length ++ (l.take k).flatMap keyBytes)).size ≤ 7000000 := by
        rw [str_size, List.length_append, keyBytes_length, List.length_take, head_length]; omega
      obtain ⟨sk, hsk⟩ : ∃ sk, strOfNums (headBytes kind frm inc seq tgt l.length ++ (l.take k).flatMap keyBytes) = sk := ⟨_, rfl⟩
      rw [hsk] at hzz ⊢
      have HSK := Lib.hid hsk
      clear hsk
      clear hbx hb
      go_wp2_with fail
      have hu := HU.out _ (List.getElem_mem hlt)
      refine (rfour_any _ _ hu.1 hu.2).mono ?_
      rintro e w3 ⟨rfl, hb3⟩
      have hx3 : w3.heap[w.heap.size]? = _ := (hb3.block _ (by simp; omega)).trans (heap_old _ HX.out)
      have hy3 : w3.heap[wr.heap.size]? = _ := (hb3.block _ (by simp)).trans (heap_alloc_eq _ _)
      have hc3 := cells_at hx3
      have hd3 := cells_at hy3
      have hly := heap_lt hy3
      have hlx := heap_lt hx3
      have hB3 : Below w.heap.size w w3 := HB.out.trans ((below_of_alloc (hb3.mono (by simp))).mono hsz)
      have HX3 := Lib.hid hx3
      have HB3 := Lib.hid hB3
      clear hb3 hx3 hB3 hcx hy3 c0 c1 c2
      go_wp2_with fail
      rw [conv_new1 _ _ _ rfl]
      go_wp2_with fail
      rw [conv_new1]
      rotate_left
      · simp
      go_wp2_with fail
      go_roundw
      case rel =>
        refine ⟨k + 1, by omega, by go_num, ?_, (HB3.out.alloc HB3.out.size _).alloc (by simp; have := HB3.out.size; omega) _, heap_old _ (heap_old _ HX3.out)⟩
        have et : (l.take (k + 1)).flatMap keyBytes = (l.take k).flatMap keyBytes ++ keyBytes l[k] := by
          rw [List.take_succ_eq_append_getElem hlt, List.flatMap_append]; simp
        rw [← HSK.out, et]
        simp [str_add, keyBytes, be1]
      case measure => simp [intOf]; omega
    · have hk' : k = l.length := by omega
      go_wp2
      go_ret
      exact ⟨by rw [hk', List.take_length]; rfl, HB.out⟩
theorem rbytes_at (m : M) (a : Option Addr) (n cap : Nat) (w : World) (hn : m.ups.length = n) (hl : n ≤ 1000000) (hk : KeysAt w a m.ups)
    (hi : 0 ≤ m.inc ∧ m.inc ≤ 4294967295) (hs : 0 ≤ m.seq ∧ m.seq ≤ 4294967295) (hu : ∀ k ∈ m.ups, 0 ≤ k.inc ∧ k.inc ≤ 4294967295) :
    Calls Tryz.prog 27 #[.agg #[.int .i64 m.kind, .int .i64 m.frm, .int .i64 m.inc, .int .i64 m.seq, .int .i64 m.tgt, .slice a n cap]] w fun e w' =>
      e = .returned (.string (strOfNums (msgBytes m))) ∧ Below w.heap.size w w' := by
  subst hn
  exact rbytes_any m.kind m.frm m.inc m.seq m.tgt m.ups a cap w hl hk hi hs hu
end Go.Proofs.YtfngdplkcppabaaGreatDoor
