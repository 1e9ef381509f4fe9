/-
  gossipref.Decode.
-/
import Derived.Test.YtfngdplkcppabaaGreatDoorRefBytes
import Derived.RegionTactic
import Derived.ChangeAlike
import Derived.BigRegion
import Derived.Laws.Strings2
namespace Go.Proofs.YtfngdplkcppabaaGreatDoor
open Go.RowKit

def RDecPost (w : World) (bs : List UInt8) (e : Ending) (w' : World) : Prop :=
  Below w.heap.size w w' ∧
  ((decodeM bs = none ∧ e = .returned (.tuple #[noMsg, .int .i64 2])) ∨
   (decodeM bs = some (rawMsg bs) ∧ ∃ v, e = .returned (.tuple #[(rawMsg bs).agg v, .int .i64 0]) ∧ w'.ownsRow w.heap.size 58 3 v (rawMsg bs).ups.length (keyCells (rawMsg bs).ups)))

theorem rdecode_short (s : ByteArray) (w : World) (h : s.size < 12) :
    Calls Tryz.prog 29 #[.string s] w fun e w' => e = .returned (.tuple #[noMsg, .int .i64 2]) ∧ Below w.heap.size w w' := by
  have HX := Lib.hid (heap_alloc_eq w (.cells #[.int .i64 0, .int .i64 0, .int .i64 0, .int .i64 0, .int .i64 0, .slice none 0 0] 33))
  go_enter Tryz.func29, Tryz.ntmps29
  go_wp2
  refine bodyPost_ret (v := .tuple #[noMsg, .int .i64 2]) (by simp [results, Tryz.results29, go_sem, noMsg]) rfl ⟨rfl, (Below.refl _ w).alloc (Nat.le_refl _) _⟩
set_option maxRecDepth 100000 in
theorem rdecode_odd (s : ByteArray) (w : World) (h : ¬ s.size < 12) (h' : s.size ≠ 12 + 6 * (s.data.toList.getD 11 0).toNat) (hm : s.size ≤ maxLen) :
    Calls Tryz.prog 29 #[.string s] w fun e w' => e = .returned (.tuple #[noMsg, .int .i64 2]) ∧ Below w.heap.size w w' := by
  unfold maxLen at hm
  have h11 : 11 < s.size := by omega
  have hb : (s[11].toNat : Int) < 256 := by have := s[11].toNat_lt; omega
  have ht : ((s.size : Int) != ((12 : Int) + (6 : Int) * (s[11].toNat : Int))) = true := by
    rw [byte11 s h11] at h'
    rw [bne_iff_ne]; omega
  clear h'
  have HX := Lib.hid (heap_alloc_eq w (.cells #[.int .i64 0, .int .i64 0, .int .i64 0, .int .i64 0, .int .i64 0, .slice none 0 0] 33))
  go_enter Tryz.func29, Tryz.ntmps29
  go_wp2
  refine bodyPost_ret (v := .tuple #[noMsg, .int .i64 2]) (by simp [results, Tryz.results29, go_sem, noMsg]) rfl ⟨rfl, (Below.refl _ w).alloc (Nat.le_refl _) _⟩
/-- The loop behind k rounds. -/
structure RMsgI (bs : List UInt8) (w wr : World) (k : Nat) (v : Value) : Prop where
  R : wr.heap[w.heap.size]? = some (.cells #[.int .i64 0, .int .i64 0, .int .i64 0, .int .i64 0, .int .i64 0, .slice none 0 0] 33 (0, 0))
  M : wr.heap[w.heap.size + 1]? = some (.cells #[.int .i64 (fieldN bs 0 1), .int .i64 (fieldN bs 1 1), .int .i64 (fieldN bs 2 4), .int .i64 (fieldN bs 6 4), .int .i64 (fieldN bs 10 1), v] 33 (0, 0))
  row : wr.ownsRow (w.heap.size + 2) 58 3 v k (keyCells (keysOf bs k))
  below : Below w.heap.size w wr
section
variable {bs : List UInt8} {w wr : World} {k : Nat} {v : Value}
theorem RMsgI.size (h : RMsgI bs w wr k v) : w.heap.size + 1 < wr.heap.size := heap_lt h.M
theorem RMsgI.alloc (h : RMsgI bs w wr k v) (o : Obj) : RMsgI bs w (wr.alloc o) k v :=
  ⟨heap_old _ h.R, heap_old _ h.M, h.row.alloc o, h.below.alloc (by have := h.size; omega) o⟩
theorem RMsgI.drew (h : RMsgI bs w wr k v) : RMsgI bs w wr.drew k v :=
  ⟨h.R, h.M, h.row.drew, h.below.drew⟩
theorem RMsgI.appended {W w1 : World} {v' : Value} (h : RMsgI bs w W k v) (hg : W.grownBy w1 v.ownBlock)
    (ho : w1.ownsRow (w.heap.size + 2) 58 3 v' (k + 1) (keyCells (keysOf bs k) ++ [.int .i64 (fieldN bs (12 + 6 * k) 1), .int .i64 (fieldN bs (12 + 6 * k + 1) 4), .int .i64 (fieldN bs (12 + 6 * k + 5) 1)])) :
    w1.cell? ⟨w.heap.size + 1, 5, none⟩ = some v ∧ w1.frozen? ⟨w.heap.size + 1, 5, none⟩ = false ∧ RMsgI bs w (w1.setCell ⟨w.heap.size + 1, 5, none⟩ v') (k + 1) v' := by
  have hb : ∀ g, v.ownBlock = some g → w.heap.size + 2 ≤ g := fun g hg => (h.row.lt g hg).1
  have hs := h.size
  have eR : w1.heap[w.heap.size]? = _ := (hg.block _ (by omega) (fun e => by have := hb _ e.symm; omega)).trans h.R
  have eM : w1.heap[w.heap.size + 1]? = _ := (hg.block _ (by omega) (fun e => by have := hb _ e.symm; omega)).trans h.M
  refine ⟨cells_at eM 5, unfrozen eM 5, ⟨by rw [heap_setCell_ne _ _ _ _ _ (by omega)]; exact eR, heap_setCell_eq eM, ?_, ?_⟩⟩
  · rw [keysOf_succ]
    exact ownsRow_setCell_below ho (by simp) _
  · refine Below.setCell (h.below.grown hg (by omega) (fun g e => by have := hb g e; omega)) (by simp) _
end
theorem ext_list (s : ByteArray) (a b : Nat) : (s.extract a b).data.toList = (s.data.toList.drop a).take (b - a) := by
  simp
theorem num_ext (s : ByteArray) (a b : Nat) (h : b = a + 4) : numL (s.extract a b).data.toList = fieldN s.data.toList a 4 := by
  rw [ext_list, fieldN]; subst h; simp
theorem byte_field (s : ByteArray) (k : Nat) (h : k < s.size) : wrap64 (s[k].toNat : Int) = fieldN s.data.toList k 1 := by
  have hb := s[k].toNat_lt
  rw [IntWalk.wrap64_in _ ⟨by omega, by omega⟩, fieldN, take1_at (by simpa using h), num1]
  rfl
theorem info_rkey : (Tryz.prog.info? 58).map (fun i => (i.zero, i.size, i.bytes)) = some (some (.agg #[.int .i64 0, .int .i64 0, .int .i64 0]), 3, 24) := by kernel_rfl

set_option maxRecDepth 100000 in
set_option maxHeartbeats 1000000 in
theorem rdecode_sized (s : ByteArray) (w : World) (h : s.size = 12 + 6 * (s.data.toList.getD 11 0).toNat) :
    Calls Tryz.prog 29 #[.string s] w (RDecPost w s.data.toList) := by
  have h11 : 11 < s.size := by omega
  have hb : (s[11].toNat : Int) < 256 := by have := s[11].toNat_lt; omega
  have ht : ((s.size : Int) != ((12 : Int) + (6 : Int) * (s[11].toNat : Int))) = false := by
    rw [byte11 s h11] at h
    rw [bne_eq_false_iff_eq]; omega
  have hsz : s.size = 12 + 6 * s[11].toNat := by rw [byte11 s h11] at h; exact h
  have hsz1 : s.size ≤ 100000 := by have := s[11].toNat_lt; omega
  have hns : 12 ≤ s.size := by omega
  have h0 : (0 : Int) < s.size := by omega
  have h1 : (1 : Int) < s.size := by omega
  have h10 : (10 : Int) < s.size := by omega
  have h0n : 0 < s.size := by omega
  have h6 : (6 : Int) ≤ s.size := by omega
  have h10' : (10 : Int) ≤ s.size := by omega
  have h1n : 1 < s.size := by omega
  have h10n : 10 < s.size := by omega
  have HSZ := Lib.hid hsz
  have hsB : sizedB s.data.toList = true := by
    have : s.data.toList.length = s.size := by simp
    unfold sizedB; rw [this]; simp only [Bool.and_eq_true, Bool.not_eq_true', decide_eq_false_iff_not, decide_eq_true_eq]; omega
  have hnb := byte11 s h11
  have HSB := Lib.hid hsB
  have HNB := Lib.hid hnb
  clear h hsz hsB hnb
  have HX := Lib.hid (heap_alloc_eq w (.cells #[.int .i64 0, .int .i64 0, .int .i64 0, .int .i64 0, .int .i64 0, .slice none 0 0] 33))
  go_enter Tryz.func29, Tryz.ntmps29
  go_wp2_with fail
  go_region
  rw [byte_field s 0 h0n, byte_field s 1 h1n, byte_field s 10 h10n]
  go_wp2_with fail
  refine (rnumber_any _ _ ?_).mono ?_
  · simp; omega
  rintro e w' ⟨rfl, rfl⟩
  rw [num_ext s 2 6 rfl]
  go_wp2_with fail
  refine (rnumber_any _ _ ?_).mono ?_
  · simp; omega
  rintro e w' ⟨rfl, rfl⟩
  rw [num_ext s 6 10 rfl]
  go_wp2_with fail
  obtain ⟨n, hnn⟩ : ∃ n, s[11].toNat = n := ⟨_, rfl⟩
  have HSZ : Hid (s.size = 12 + 6 * n) := by rw [← hnn]; exact HSZ.out
  have HNB : Hid ((s.data.toList.getD 11 0).toNat = n) := by rw [← hnn]; exact congrArg UInt8.toNat HNB.out
  obtain ⟨bs, hbs⟩ : ∃ bs, s.data.toList = bs := ⟨_, rfl⟩
  rw [hbs] at HSB HNB ⊢
  have HBS := Lib.hid hbs
  clear hnn hbs
  go_loopw [5] (fun i wr => ∃ (k : Nat) (v : Value), k ≤ n ∧ i = .int .i64 ((12 + 6 * k : Nat) : Int) ∧ RMsgI bs w wr k v) (fun i _ => s.size - (intOf i).toNat)
  case atStart =>
    exact ⟨0, .slice none 0 0, Nat.zero_le _, rfl, ⟨heap_old _ (heap_alloc_eq w _), heap_new _ _ (by simp), World.ownsRow_nil _ _ _ _, (((Below.refl _ w).alloc (Nat.le_refl _) _).alloc (by simp) _).drew⟩⟩
  case round =>
    obtain ⟨k, v, hkn, rfl, hI⟩ := hrel
    by_cases hlt : k < n
    · obtain ⟨o, ho⟩ : ∃ o, 12 + 6 * k = o := ⟨_, rfl⟩
      have hosz : o + 6 ≤ s.size := by have := HSZ.out; omega
      have ho0 : o < s.size := by omega
      have ho5 : o + 5 < s.size := by omega
      have ho0i : (o : Int) < s.size := by omega
      have ho5i : (o : Int) + 5 < s.size := by omega
      have ho5l : (o : Int) + 5 ≤ s.size := by omega
      rw [ho]
      have HO := Lib.hid ho
      have hM := cells_at hI.M
      have hsz := hI.size
      have HI := Lib.hid hI
      clear ho hI
      go_wp2_with fail
      have hsl := run_slice_string (P := Tryz.prog) wr 9 s .i64 .i64 ((o : Int) + 1) ((o : Int) + 5) Tryz.underlying9 (by omega) (by omega) (by omega)
      have ea : ((o : Int) + 1).toNat = o + 1 := by omega
      have eb : ((o : Int) + 5).toNat = o + 5 := by omega
      rw [ea, eb] at hsl
      rw [hsl]
      clear ea eb hsl
      go_wp2_with fail
      refine (rnumber_any _ _ ?_).mono ?_
      · simp; omega
      rintro e w' ⟨rfl, rfl⟩
      rw [num_ext s (o + 1) (o + 5) (by omega), HBS.out]
      obtain ⟨o5, ho5e⟩ : ∃ o5, o + 5 = o5 := ⟨_, rfl⟩
      have hw5 : IntKind.i64.wrap ((o : Int) + 5) = (o5 : Int) := by rw [IntWalk.i64_in _ ⟨by omega, by omega⟩]; omega
      have h5n : o5 < s.size := by omega
      have h5i : (o5 : Int) < s.size := by omega
      have HO5 := Lib.hid ho5e
      clear ho5e ho5 ho5i ho5l
      go_wp2_with fail
      go_region
      rw [byte_field s o ho0, byte_field s o5 h5n, HBS.out]
      have HI2 := Lib.hid ((HI.out.alloc (.cells #[.int .i64 (fieldN bs o 1), .int .i64 (fieldN bs (o + 1) 4), .int .i64 (fieldN bs o5 1)] 58)).drew)
      obtain ⟨W2, hW2⟩ : ∃ W2, W2 = (wr.alloc (.cells #[.int .i64 (fieldN bs o 1), .int .i64 (fieldN bs (o + 1) 4), .int .i64 (fieldN bs o5 1)] 58)).drew := ⟨_, rfl⟩
      have hu := cells_at (show W2.heap[wr.heap.size]? = _ by rw [hW2]; exact heap_alloc_eq wr _)
      have hM2 := cells_at (show W2.heap[w.heap.size + 1]? = _ by rw [hW2]; exact HI2.out.M)
      rw [← hW2] at HI2 ⊢
      have HW2 := Lib.hid hW2
      have HN := Lib.hid (cells_new W2 [.int .i64 (fieldN bs o 1), .int .i64 (fieldN bs (o + 1) 4), .int .i64 (fieldN bs o5 1)] 58 (n := W2.heap.size) rfl)
      have HI3 := Lib.hid (HI2.out.alloc (.cells #[.int .i64 (fieldN bs o 1), .int .i64 (fieldN bs (o + 1) 4), .int .i64 (fieldN bs o5 1)] 58))
      have k3 : k + 1 ≤ maxLen := by have := HO.out; unfold maxLen; omega
      have K3 := Lib.hid k3
      have hbk : (k + 1) * 24 ≤ 140737488355328 := by have := HO.out; omega
      have HBK := Lib.hid hbk
      obtain ⟨i0, hi, hz0, hz1, hz2⟩ := info_parts info_rkey
      have hsW2 := HI2.out.size
      clear hM k3 hbk hW2
      go_wp2_with (at_builtin; refine wpList_append_own _ rfl _ _ 31 rfl (w.heap.size + 2) 58 i0 _ 3 24 Tryz.underlying31 hi hz0 hz1 hz2 rfl (by decide) v k _ rfl HI3.out.row ⟨W2.heap.size, 0, none⟩ 1 1 _ rfl rfl HN.out (by simp [Value.oneCell']) K3.out HBK.out (by have := HI3.out.size; omega) ?_)
      intro v' w1 hown1 hgrow1 _
      obtain ⟨hM1, hf1, hI1⟩ := HI3.out.appended hgrow1 (by rw [← HO5.out, ← HO.out] at hown1; exact hown1)
      obtain ⟨ad', cp', rfl⟩ := ownsRow_sl hown1
      have HI1 := Lib.hid hI1
      clear hI1 hown1 hgrow1
      have hw6 : (o : Int) + 6 = ((12 + 6 * (k + 1) : Nat) : Int) := by have := HO.out; omega
      have HW6 := Lib.hid hw6
      clear hw6
      go_wp2
      go_roundw
      case rel => exact ⟨k + 1, _, by omega, by rw [← HW6.out], HI1.out⟩
      case measure => simp [intOf]; omega
    · have hk : k = n := by omega
      subst hk
      have hle : s.size ≤ 12 + 6 * k := by have := HSZ.out; omega
      have hkb : k ≤ 100000 := by have := HSZ.out; omega
      have hM := cells_at hI.M
      obtain ⟨a, cap, rfl⟩ := ownsRow_sl hI.row
      obtain ⟨hlen, hka⟩ := keysAt_row hI.row
      have hR := heap_lt hI.R
      have hsz := hI.size
      have HI := Lib.hid hI
      have HKA := Lib.hid hka
      have HLE := Lib.hid hlen
      have hrow := own_below (B' := w.heap.size) hI.row (by omega)
      have HROW := Lib.hid hrow
      clear hI hka hlen hrow
      have hm : rawMsg bs = ⟨fieldN bs 0 1, fieldN bs 1 1, fieldN bs 2 4, fieldN bs 6 4, fieldN bs 10 1, keysOf bs k⟩ := by rw [rawMsg, HNB.out]
      have HM := Lib.hid hm
      clear hm
      go_wp2_with fail
      refine (rwhole_at ⟨fieldN bs 0 1, fieldN bs 1 1, fieldN bs 2 4, fieldN bs 6 4, fieldN bs 10 1, keysOf bs k⟩ a k cap _ HLE.out (by omega) HKA.out).mono ?_
      rintro e w2 ⟨rfl, hb2⟩
      rw [← HM.out]
      have hR2 : w2.heap[w.heap.size]? = _ := (hb2.block _ hR).trans HI.out.R
      have hM2 : w2.heap[w.heap.size + 1]? = _ := (hb2.block _ hsz).trans HI.out.M
      have hBB : Below w.heap.size w w2 := HI.out.below.trans (hb2.mono (by omega))
      have hRow2 : w2.ownsRow w.heap.size 58 3 (.slice a k cap) k (keyCells (keysOf bs k)) := own_under HROW.out hb2
      have hcR := cells_at hR2
      have hcM := cells_at hM2
      have hfR := unfrozen hR2
      have HR2 := Lib.hid hR2
      have HBB := Lib.hid hBB
      have HRow2 := Lib.hid hRow2
      have hsz2 := hb2.size
      clear hR2 hM2 hBB hRow2 hb2 hR
      cases hw : wholeB (rawMsg bs)
      · have HD : Hid (decodeM bs = none) := by unfold decodeM; rw [if_neg (by rw [hw]; simp)]; trivial
        have HW := Lib.hid hw
        clear hw
        go_wp2
        refine six_set (R := bodyPost _ _ _ _ _) HR2.out _ _ _ _ _ _ (fun W hW hC => ?_)
        have hc := cells_at hW
        refine bodyPost_ret (v := .tuple #[noMsg, .int .i64 2]) (by simp [results, Tryz.results29, go_sem, noMsg, hc]) rfl ⟨?_, .inl ⟨by rw [HBS.out]; exact HD.out, rfl⟩⟩
        exact HBB.out.trans (hC.below (by omega) (fun k o e => by omega))
      · have HD : Hid (decodeM bs = some (rawMsg bs)) := by unfold decodeM; rw [if_pos ⟨HSB.out, hw⟩]; trivial
        have HW := Lib.hid hw
        clear hw
        go_wp2
        refine six_set (R := bodyPost _ _ _ _ _) HR2.out _ _ _ _ _ _ (fun W hW hC => ?_)
        have hc := cells_at hW
        have hm := HM.out
        refine bodyPost_ret (v := .tuple #[(rawMsg bs).agg (.slice a k cap), .int .i64 0]) (by simp [results, Tryz.results29, go_sem, M.agg, hm, hc]) rfl ⟨?_, .inr ⟨by rw [HBS.out]; exact HD.out, .slice a k cap, by rw [HBS.out], ?_⟩⟩
        · exact HBB.out.trans (hC.below (by omega) (fun k o e => by omega))
        · rw [HBS.out, hm]
          have := own_chg HRow2.out hC (fun g o hg e => by have := (HI.out.row.lt g hg).1; omega)
          have e : (keysOf bs k).length = k := HLE.out
          show W.ownsRow _ _ _ _ (keysOf bs k).length _
          rw [e]
          exact this

theorem rdecode_any (s : ByteArray) (w : World) (hm : s.size ≤ maxLen) : Calls Tryz.prog 29 #[.string s] w (RDecPost w s.data.toList) := by
  have hl : s.data.toList.length = s.size := by simp
  by_cases h : s.size < 12
  · refine (rdecode_short s w h).mono fun e w' ⟨he, hb⟩ => ⟨hb, .inl ⟨?_, he⟩⟩
    unfold decodeM
    rw [if_neg (by unfold sizedB; rw [hl]; simp [h])]
  · by_cases h' : s.size = 12 + 6 * (s.data.toList.getD 11 0).toNat
    · exact rdecode_sized s w h'
    · refine (rdecode_odd s w h h' hm).mono fun e w' ⟨he, hb⟩ => ⟨hb, .inl ⟨?_, he⟩⟩
      unfold decodeM
      rw [if_neg (by unfold sizedB; rw [hl]; simp only [Bool.and_eq_true, decide_eq_true_eq]; omega)]
end Go.Proofs.YtfngdplkcppabaaGreatDoor
