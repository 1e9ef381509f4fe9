/-
  gossiplaw: encoded, decoded.
-/
import Derived.Test.YtfngdplkcppabaaGreatDoorSpare
import Derived.Test.YtfngdplkcppabaaGreatDoorCodec
namespace Go.Proofs.YtfngdplkcppabaaGreatDoor
open Go.RowKit

theorem KB.spareKeys {w : World} {g n : Nat} {l : List K} (hg : KB w g (n + 2) (fun i => if i < n then l.getD i zK else mK)) (hn : l.length = n) : KeysAt w (some ⟨g, 0, none⟩) l :=
  hg.keysAt (by omega) (fun i k hk => by
    have hi : i < l.length := by
      rcases Nat.lt_or_ge i l.length with h' | h'
      · exact h'
      · rw [List.getElem?_eq_none h'] at hk; cases hk
    show (if i < n then l.getD i zK else mK) = k
    rw [if_pos (by omega)]
    simp [List.getD, hk])

set_option maxHeartbeats 1000000 in
theorem encoded_any (m : M) (a : Option Addr) (n cap : Nat) (w : World) (hn : m.ups.length = n) (hl : n ≤ 1000000) (hk : KeysAt w a m.ups) (hg : ErrType w) :
    Calls Tryz.prog 12 #[.agg #[.int .i64 m.kind, .int .i64 m.frm, .int .i64 m.inc, .int .i64 m.seq, .int .i64 m.tgt, .slice a n cap]] w fun e w' =>
      ∃ s : ByteArray, e = .returned (.tuple #[.string s, .bool true]) ∧ s.size ≤ 60 ∧ Below w.heap.size w w' := by
  have HK := Lib.hid hk
  have HG := Lib.hid hg
  have HN := Lib.hid hn
  clear hk hg hn
  obtain ⟨kind, frm, inc, seq, tgt, ups⟩ := m
  go_enter Tryz.func12, Tryz.ntmps12
  go_wp2_with fail
  refine (spare_any ups a n cap _ HN.out hl (HK.out.below ((Below.refl _ w).alloc (Nat.le_refl _) _))).mono ?_
  rintro e w1 ⟨g, cap', rfl, hgl, hc', hb1, hkb1⟩
  simp only [World.size_alloc] at hgl
  have hx1 : w1.heap[w.heap.size]? = _ := (hb1.block _ (by simp)).trans (heap_alloc_eq w _)
  have hB1 : Below w.heap.size w w1 := below_of_alloc (hb1.mono (by simp))
  have hc1 := cells_at hx1
  have HX1 := Lib.hid hx1
  have HB1 := Lib.hid hB1
  have HKB1 := Lib.hid hkb1
  clear hx1 hB1 hkb1 hb1
  go_wp2_with fail
  have henc : Calls Tryz.prog 23 #[.agg #[.int .i64 kind, .int .i64 frm, .int .i64 inc, .int .i64 seq, .int .i64 tgt, .slice (some ⟨g, 0, none⟩) n cap']] w1 fun e w' =>
      e = .returned (if wholeB ⟨kind, frm, inc, seq, tgt, ups⟩ = true then .tuple #[.string (strOfNums (msgBytes ⟨kind, frm, inc, seq, tgt, ups⟩)), .nilIface] else .tuple #[.string ⟨#[]⟩, .iface 111 (.int .i64 2)]) ∧ Below w1.heap.size w1 w' := by
    cases hw : wholeB ⟨kind, frm, inc, seq, tgt, ups⟩
    · exact encode_no ⟨kind, frm, inc, seq, tgt, ups⟩ _ n _ w1 HN.out (by omega) (HKB1.out.spareKeys HN.out) hw
    · exact encode_yes ⟨kind, frm, inc, seq, tgt, ups⟩ _ n _ w1 HN.out (HKB1.out.spareKeys HN.out) hw
  refine henc.mono ?_
  rintro e w2 ⟨rfl, hb2⟩
  have hx2 : w2.heap[w.heap.size]? = _ := (hb2.block _ (heap_lt HX1.out)).trans HX1.out
  have hB2 : Below w.heap.size w w2 := HB1.out.trans (hb2.mono HB1.out.size)
  have hkb2 := HKB1.out.under hb2 HKB1.out.lt
  have hc2 := cells_at hx2
  have HX2 := Lib.hid hx2
  have HB2 := Lib.hid hB2
  have HKB2 := Lib.hid hkb2
  clear hx2 hB2 hkb2 hb2 henc hc1
  have hlt1 := heap_lt HX1.out
  cases hw : wholeB ⟨kind, frm, inc, seq, tgt, ups⟩
  · have HW := Lib.hid hw
    clear hw
    rw [if_neg (by simp)]
    go_wp2_with fail
    refine (still_any ups g a n cap' cap w2 HN.out hl hc' HKB2.out (HK.out.below HB2.out)).mono ?_
    rintro e w3 ⟨rfl, hch3⟩
    have hx3 : w3.heap[w.heap.size]? = _ := hch3.kept _ _ HX2.out (by omega)
    have hB3 : Below w.heap.size w w3 := HB2.out.trans (hch3.below HB2.out.size (fun k o e => by omega))
    have hc3 := cells_at hx3
    have HX3 := Lib.hid hx3
    have HB3 := Lib.hid hB3
    clear hx3 hB3 hch3 hc2
    go_wp2_with fail
    refine (rwhole_at ⟨kind, frm, inc, seq, tgt, ups⟩ a n cap w3 HN.out (by omega) (HK.out.below HB3.out)).mono ?_
    rintro e w4 ⟨rfl, hb4⟩
    rw [HW.out]
    have hB4 : Below w.heap.size w w4 := HB3.out.trans (hb4.mono HB3.out.size)
    have HB4 := Lib.hid hB4
    clear hb4 hB4 hc3
    go_wp2_with fail
    refine (ltold_err 2 w4 (by decide) (HG.out.below HB4.out)).mono ?_
    rintro e w5 ⟨rfl, hb5⟩
    have HB5 := Lib.hid (HB4.out.trans (hb5.mono HB4.out.size))
    clear hb5
    go_wp2
    go_ret2
    exact ⟨⟨#[]⟩, rfl, by decide, HB5.out⟩
  · have HW := Lib.hid hw
    clear hw
    rw [if_pos rfl]
    obtain ⟨hk1, hf1, hi1, hs1, ht1, hu1, hku1⟩ := whole_fields HW.out
    obtain ⟨S, hS⟩ : ∃ S, strOfNums (msgBytes ⟨kind, frm, inc, seq, tgt, ups⟩) = S := ⟨_, rfl⟩
    have hsz : S.size ≤ 60 := by
      rw [← hS, str_size]
      simp only [msgBytes, List.length_append, head_length, keyBytes_length]
      simp only at hu1
      omega
    rw [hS]
    have HS := Lib.hid hS
    have HSZ := Lib.hid hsz
    clear hS hsz
    go_wp2_with fail
    refine (still_any ups g a n cap' cap w2 HN.out hl hc' HKB2.out (HK.out.below HB2.out)).mono ?_
    rintro e w3 ⟨rfl, hch3⟩
    have hx3 : w3.heap[w.heap.size]? = _ := hch3.kept _ _ HX2.out (by omega)
    have hB3 : Below w.heap.size w w3 := HB2.out.trans (hch3.below HB2.out.size (fun k o e => by omega))
    have hc3 := cells_at hx3
    have HX3 := Lib.hid hx3
    have HB3 := Lib.hid hB3
    clear hx3 hB3 hch3 hc2
    go_wp2_with fail
    refine (rwhole_at ⟨kind, frm, inc, seq, tgt, ups⟩ a n cap w3 HN.out (by omega) (HK.out.below HB3.out)).mono ?_
    rintro e w4 ⟨rfl, hb4⟩
    rw [HW.out]
    have hx4 : w4.heap[w.heap.size]? = _ := (hb4.block _ (heap_lt HX3.out)).trans HX3.out
    have hc4 := cells_at hx4
    have hB4 : Below w.heap.size w w4 := HB3.out.trans (hb4.mono HB3.out.size)
    have HB4 := Lib.hid hB4
    clear hb4 hB4 hc3 hx4
    go_wp2_with fail
    refine (rbytes_at ⟨kind, frm, inc, seq, tgt, ups⟩ a n cap w4 HN.out hl (HK.out.below HB4.out) ⟨Int.le_trans (by decide) hi1.1, Int.le_trans hi1.2 (by decide)⟩ hs1
      (fun k hk => by have := (keyB_iff.1 (hku1 k hk)).2.1; omega)).mono ?_
    rintro e w5 ⟨rfl, hb5⟩
    rw [HS.out]
    have HB5 := Lib.hid (HB4.out.trans (hb5.mono HB4.out.size))
    clear hb5
    go_wp2
    go_ret2
    exact ⟨S, rfl, HSZ.out, HB5.out⟩

theorem decode_some {bs : List UInt8} {m : M} (h : decodeM bs = some m) : m = rawMsg bs ∧ sizedB bs = true ∧ wholeB (rawMsg bs) = true := by
  unfold decodeM at h
  split at h
  · rename_i hh; cases h; exact ⟨rfl, hh.1, hh.2⟩
  · cases h
/-- Keys of gossipref in a block of their own type. -/
def RKeys (w : World) (a : Option Addr) (l : List K) : Prop :=
  KeysAt w a l ∧ ∀ p, a = some p → ∃ cs f, w.heap[p.block]? = some (.cells cs 58 f)
theorem RKeys.of_row {w : World} {B n cap : Nat} {a : Option Addr} {l : List K} (h : w.ownsRow B 58 3 (.slice a n cap) n (keyCells l)) : RKeys w a l := by
  refine ⟨(keysAt_row h).2, fun p hp => ?_⟩
  rcases h.2 with ⟨e, _⟩ | ⟨g, cap', cur, e, _, hg, _⟩
  · simp only [Value.slice.injEq] at e; rw [e.1] at hp; cases hp
  · simp only [Value.slice.injEq] at e; rw [e.1] at hp; cases hp; exact ⟨_, _, hg⟩
theorem RKeys.none (w : World) : RKeys w none [] := ⟨fun i k h => by simp at h, fun p h => by cases h⟩

set_option maxHeartbeats 1000000 in
theorem decoded_any (s : ByteArray) (w : World) (hm : s.size ≤ maxLen) (hg : ErrType w) :
    Calls Tryz.prog 14 #[.string s] w fun e w' =>
      ∃ (m : M) (a : Option Addr) (n cap : Nat) (v : Value), e = .returned (.tuple #[m.agg (.slice a n cap), v, .bool true]) ∧ m.ups.length = n ∧ n ≤ 8 ∧ RKeys w' a m.ups ∧
        w'.ownsRow w.heap.size 76 3 v n (keyCells m.ups) ∧ Below w.heap.size w w' := by
  have HG := Lib.hid hg
  clear hg
  go_enter Tryz.func14, Tryz.ntmps14
  go_wp2_with fail
  refine (decode_any s _ hm).mono ?_
  rintro e w1 ⟨hb1, hd1⟩
  have hx1 : w1.heap[w.heap.size]? = _ := (hb1.block _ (by simp)).trans (heap_alloc_eq w _)
  have hB1 : Below w.heap.size w w1 := below_of_alloc (hb1.mono (by simp))
  have HX1 := Lib.hid hx1
  have HB1 := Lib.hid hB1
  clear hx1 hB1 hb1
  rcases hd1 with ⟨hd, rfl⟩ | ⟨hd, v, rfl, hrow⟩
  · have HD := Lib.hid hd
    clear hd
    unfold noMsg
    go_wp2_with fail
    refine (rdecode_any s _ hm).mono ?_
    rintro e w2 ⟨hb2, hd2⟩
    rcases hd2 with ⟨_, rfl⟩ | ⟨hd', _⟩
    case inr => rw [HD.out] at hd'; cases hd'
    have hx2 : w2.heap[w.heap.size]? = _ := (hb2.block _ (by simp; have := heap_lt HX1.out; omega)).trans (heap_old _ HX1.out)
    have hy2 : w2.heap[w1.heap.size]? = _ := (hb2.block _ (by simp)).trans (heap_alloc_eq w1 _)
    have hB2 : Below w.heap.size w w2 := HB1.out.trans ((below_of_alloc (hb2.mono (by simp))).mono HB1.out.size)
    have hcy2 := cells_at hy2
    have HX2 := Lib.hid hx2
    have HY2 := Lib.hid hy2
    have HB2 := Lib.hid hB2
    clear hx2 hy2 hB2 hb2
    unfold noMsg
    go_wp2_with fail
    refine (ltold_err 2 _ (by decide) ((HG.out.below HB2.out).below ((Below.refl _ _).alloc (Nat.le_refl _) _))).mono ?_
    rintro e w3 ⟨rfl, hb3⟩
    have hx3 : w3.heap[w.heap.size]? = _ := (hb3.block _ (by simp; have := heap_lt HX2.out; omega)).trans (heap_old _ HX2.out)
    have hy3 : w3.heap[w1.heap.size]? = _ := (hb3.block _ (by simp; have := heap_lt HY2.out; omega)).trans (heap_old _ HY2.out)
    have hz3 : w3.heap[w2.heap.size]? = _ := (hb3.block _ (by simp)).trans (heap_alloc_eq w2 _)
    have hB3 : Below w.heap.size w w3 := HB2.out.trans ((below_of_alloc (hb3.mono (by simp))).mono HB2.out.size)
    have hcy3 := cells_at hy3
    have hcz3 := cells_at hz3
    have HX3 := Lib.hid hx3
    have HY3 := Lib.hid hy3
    have HZ3 := Lib.hid hz3
    have HB3 := Lib.hid hB3
    clear hx3 hy3 hz3 hB3 hb3 hcy2
    go_wp2_with fail
    refine (keys_same [] none none 0 0 0 _ rfl (by omega) (fun i k h => by simp at h) (fun i k h => by simp at h)).mono ?_
    rintro e w4 ⟨rfl, hb4⟩
    have hx4 : w4.heap[w.heap.size]? = _ := (hb4.block _ (heap_lt HX3.out)).trans HX3.out
    have hy4 : w4.heap[w1.heap.size]? = _ := (hb4.block _ (heap_lt HY3.out)).trans HY3.out
    have hz4 : w4.heap[w2.heap.size]? = _ := (hb4.block _ (heap_lt HZ3.out)).trans HZ3.out
    have hB4 : Below w.heap.size w w4 := HB3.out.trans (hb4.mono HB3.out.size)
    have hcx4 := cells_at hx4
    have hcy4 := cells_at hy4
    have hcz4 := cells_at hz4
    have hfx4 := unfrozen hx4
    have HX4 := Lib.hid hx4
    have HB4 := Lib.hid hB4
    clear hx4 hy4 hz4 hB4 hb4 hcy3 hcz3
    have hne1 : w.heap.size ≠ w1.heap.size := by have := heap_lt HX1.out; omega
    have hne2 : w.heap.size ≠ w2.heap.size := by have := heap_lt HX2.out; omega
    have hne3 : w1.heap.size ≠ w.heap.size := hne1.symm
    have hne4 : w2.heap.size ≠ w.heap.size := hne2.symm
    go_wp2_with fail
    go_region
    go_wp2
    refine six_set (R := fun W => bodyPost _ _ _ _ _ W.drew) HX4.out _ _ _ _ _ _ (fun W hW hC => ?_)
    have hc := cells_at hW
    refine bodyPost_ret (v := .tuple #[M.agg ⟨0, 0, 0, 0, 0, []⟩ (.slice none 0 0), .slice none 0 0, .bool true]) (by simp [results, Tryz.results14, go_sem, M.agg, hc]) rfl
      ⟨⟨0, 0, 0, 0, 0, []⟩, none, 0, 0, .slice none 0 0, rfl, rfl, by omega, RKeys.none _, World.ownsRow_nil _ _ _ _, (HB4.out.trans (hC.below HB4.out.size (fun k o e => by omega))).drew⟩
  · have HD := Lib.hid hd
    clear hd
    obtain ⟨a, cap, rfl⟩ := ownsRow_sl hrow
    obtain ⟨m, hmm⟩ : ∃ m, rawMsg s.data.toList = m := ⟨_, rfl⟩
    rw [hmm] at hrow ⊢
    have HMM := Lib.hid hmm
    have HROW := Lib.hid hrow
    clear hmm hrow
    unfold M.agg
    go_wp2_with fail
    refine (rdecode_any s _ hm).mono ?_
    rintro e w2 ⟨hb2, hd2⟩
    rcases hd2 with ⟨hd', _⟩ | ⟨_, v', rfl, hrow2⟩
    case inl => rw [HD.out] at hd'; cases hd'
    obtain ⟨a', cap', rfl⟩ := ownsRow_sl hrow2
    rw [HMM.out] at hrow2 ⊢
    have HROW2 := Lib.hid hrow2
    have HROW' := Lib.hid (own_under (own_under HROW.out ((Below.refl _ _).alloc (Nat.le_refl _) _)) hb2)
    clear hrow2
    have hx2 : w2.heap[w.heap.size]? = _ := (hb2.block _ (by simp; have := heap_lt HX1.out; omega)).trans (heap_old _ HX1.out)
    have hy2 : w2.heap[w1.heap.size]? = _ := (hb2.block _ (by simp)).trans (heap_alloc_eq w1 _)
    have hB2 : Below w.heap.size w w2 := HB1.out.trans ((below_of_alloc (hb2.mono (by simp))).mono HB1.out.size)
    have hcy2 := cells_at hy2
    have HX2 := Lib.hid hx2
    have HY2 := Lib.hid hy2
    have HB2 := Lib.hid hB2
    clear hx2 hy2 hB2 hb2
    unfold M.agg
    go_wp2_with fail
    refine (ltold_ok _).mono ?_
    rintro e w3 ⟨rfl, hw3⟩
    have hb3 : Below (w2.alloc (.cells #[.int .i64 m.kind, .int .i64 m.frm, .int .i64 m.inc, .int .i64 m.seq, .int .i64 m.tgt, .slice a' m.ups.length cap'] 33)).heap.size (w2.alloc (.cells #[.int .i64 m.kind, .int .i64 m.frm, .int .i64 m.inc, .int .i64 m.seq, .int .i64 m.tgt, .slice a' m.ups.length cap'] 33)) w3 := by rw [hw3]; exact Below.refl _ _
    clear hw3
    have hx3 : w3.heap[w.heap.size]? = _ := (hb3.block _ (by simp; have := heap_lt HX2.out; omega)).trans (heap_old _ HX2.out)
    have hy3 : w3.heap[w1.heap.size]? = _ := (hb3.block _ (by simp; have := heap_lt HY2.out; omega)).trans (heap_old _ HY2.out)
    have hz3 : w3.heap[w2.heap.size]? = _ := (hb3.block _ (by simp)).trans (heap_alloc_eq w2 _)
    have hB3 : Below w.heap.size w w3 := HB2.out.trans ((below_of_alloc (hb3.mono (by simp))).mono HB2.out.size)
    have hcy3 := cells_at hy3
    have hcz3 := cells_at hz3
    have HR3 := Lib.hid (own_under (HROW'.out.alloc _) hb3)
    have HQ3 := Lib.hid (own_under (HROW2.out.alloc _) hb3)
    have h8 : m.ups.length ≤ 8 := whole_len (by rw [← HMM.out]; exact (decode_some HD.out).2.2)
    have HX3 := Lib.hid hx3
    have HY3 := Lib.hid hy3
    have HZ3 := Lib.hid hz3
    have HB3 := Lib.hid hB3
    clear hx3 hy3 hz3 hB3 hb3 hcy2
    go_wp2_with fail
    refine (keys_same m.ups a a' m.ups.length cap cap' _ rfl (by omega) (keysAt_row HR3.out).2 (keysAt_row HQ3.out).2).mono ?_
    rintro e w4 ⟨rfl, hb4⟩
    have HB34 := Lib.hid hb4
    have hx4 : w4.heap[w.heap.size]? = _ := (hb4.block _ (heap_lt HX3.out)).trans HX3.out
    have hy4 : w4.heap[w1.heap.size]? = _ := (hb4.block _ (heap_lt HY3.out)).trans HY3.out
    have hz4 : w4.heap[w2.heap.size]? = _ := (hb4.block _ (heap_lt HZ3.out)).trans HZ3.out
    have hB4 : Below w.heap.size w w4 := HB3.out.trans (hb4.mono HB3.out.size)
    have hcx4 := cells_at hx4
    have hcy4 := cells_at hy4
    have hcz4 := cells_at hz4
    have hfx4 := unfrozen hx4
    have HX4 := Lib.hid hx4
    have HB4 := Lib.hid hB4
    clear hx4 hy4 hz4 hB4 hb4 hcy3 hcz3
    have hne1 : w.heap.size ≠ w1.heap.size := by have := heap_lt HX1.out; omega
    have hne2 : w.heap.size ≠ w2.heap.size := by have := heap_lt HX2.out; omega
    have hne3 : w1.heap.size ≠ w.heap.size := hne1.symm
    have hne4 : w2.heap.size ≠ w.heap.size := hne2.symm
    go_wp2_with fail
    go_region
    go_wp2
    refine six_set (R := fun W => bodyPost _ _ _ _ _ W.drew) HX4.out _ _ _ _ _ _ (fun W hW hC => ?_)
    have hc := cells_at hW
    refine bodyPost_ret (v := .tuple #[m.agg (.slice a' m.ups.length cap'), .slice a m.ups.length cap, .bool true]) (by simp [results, Tryz.results14, go_sem, M.agg, hc]) rfl
      ⟨m, a', m.ups.length, cap', .slice a m.ups.length cap, rfl, rfl, h8, ?_, ?_, (HB4.out.trans (hC.below HB4.out.size (fun k o e => by omega))).drew⟩
    · exact RKeys.of_row (own_chg (own_under HQ3.out HB34.out) hC (fun g o hg e => by have := (HQ3.out.lt g hg).1; have := heap_lt HX1.out; simp only [World.size_alloc] at *; omega)).drew
    · exact own_below (own_chg (own_under HR3.out HB34.out) hC (fun g o hg e => by have := (HR3.out.lt g hg).1; simp only [World.size_alloc] at this; omega)).drew (by simp)
end Go.Proofs.YtfngdplkcppabaaGreatDoor
