/-
  gossipkeep.Back: what is encoded is decoded to the same; with a byte more, or less, it is nothing. THE WALK.
-/
import Derived.Test.YtfngdplkcppabaaDoorKeepMsg
import Derived.Test.YtfngdplkcppabaaDoorSame
import Derived.Test.YtfngdplkcppabaaDoorForth
namespace Go.Proofs.YtfngdplkcppabaaDoor
open Go.RowKit

theorem keep_whole (m : M) : wholeB (keepMsg m) = true := by
  have a1 := pickI_bd m.kind 5 (by omega)
  have a2 := pickI_bd m.frm 250 (by omega)
  have a3 := pickI_bd m.inc 1073741824 (by omega)
  have a4 := pickI_bd m.seq 4294967296 (by omega)
  have a5 := pickI_bd m.tgt 250 (by omega)
  have hkeys : ∀ (l : List K), (l.map keepKey).all keyB = true := by
    intro l
    rw [List.all_eq_true]
    intro k hk
    obtain ⟨x, _, rfl⟩ := List.mem_map.1 hk
    have b1 := pickI_bd x.id 250 (by omega)
    have b2 := pickI_bd x.inc 1073741824 (by omega)
    have b3 := pickI_bd x.st 4 (by omega)
    rw [keyB_iff]
    simp only [keepKey]
    omega
  have hk : (keepMsg m).kind = 1 + pickI m.kind 5 := rfl
  have hkk : keepKind m.kind = 1 + pickI m.kind 5 := rfl
  by_cases h4 : 1 + pickI m.kind 5 < 4
  · have hr : roomI (keepMsg m).kind = 4 := by rw [hk]; unfold roomI; rw [if_pos (by omega)]
    have ht : (keepMsg m).tgt = 1 + pickI m.tgt 250 := by show (if keepKind m.kind < 4 then _ else _) = _; rw [hkk, if_pos h4]
    have hmo : keepMost m.kind = 4 := by unfold keepMost; rw [hkk, if_pos h4]
    refine wholeB_true ?_ ?_ ?_ ?_ ?_ (hkeys _)
    · rw [tgtB_eq hr, if_neg (by decide), ht, withinB_iff]; omega
    · rw [hr]; show ¬ (((m.ups.take (keepMost m.kind)).map keepKey).length : Int) > 4; rw [hmo, List.length_map, List.length_take]; omega
    · rw [withinB_iff]; show 1 ≤ 1 + pickI m.frm 250 ∧ _; exact ⟨by omega, by show 1 + pickI m.frm 250 ≤ 250; omega⟩
    · rw [withinB_iff]; exact ⟨by show 1 ≤ 1 + pickI m.inc 1073741824; omega, by show 1 + pickI m.inc 1073741824 ≤ 1073741824; omega⟩
    · rw [withinB_iff]; exact ⟨a4.1, by show pickI m.seq 4294967296 ≤ 4294967295; omega⟩
  · have hr : roomI (keepMsg m).kind = 8 := by rw [hk]; unfold roomI; rw [if_neg (by omega), if_pos (by omega)]
    have ht : (keepMsg m).tgt = 0 := by show (if keepKind m.kind < 4 then _ else _) = _; rw [hkk, if_neg h4]
    have hmo : keepMost m.kind = 8 := by unfold keepMost; rw [hkk, if_neg h4]
    refine wholeB_true ?_ ?_ ?_ ?_ ?_ (hkeys _)
    · rw [tgtB_eq hr, if_pos rfl, ht]; rfl
    · rw [hr]; show ¬ (((m.ups.take (keepMost m.kind)).map keepKey).length : Int) > 8; rw [hmo, List.length_map, List.length_take]; omega
    · rw [withinB_iff]; exact ⟨by show 1 ≤ 1 + pickI m.frm 250; omega, by show 1 + pickI m.frm 250 ≤ 250; omega⟩
    · rw [withinB_iff]; exact ⟨by show 1 ≤ 1 + pickI m.inc 1073741824; omega, by show 1 + pickI m.inc 1073741824 ≤ 1073741824; omega⟩
    · rw [withinB_iff]; exact ⟨a4.1, by show pickI m.seq 4294967296 ≤ 4294967295; omega⟩

/-- What Decode leaves of bytes that are none. -/
theorem decpost_none {w w' : World} {bs : List UInt8} {e : Ending} (h : DecPost w bs e w') (hd : decodeM bs = none) : e = .returned (.tuple #[noMsg, .iface 33 (.int .i64 2)]) ∧ Below w.heap.size w w' := by
  obtain ⟨hb, h | ⟨h, _⟩⟩ := h
  · exact ⟨h.2, hb⟩
  · rw [hd] at h; cases h
theorem decpost_some {w w' : World} {bs : List UInt8} {e : Ending} {m : M} (h : DecPost w bs e w') (hd : decodeM bs = some m) :
    ∃ a cap, e = .returned (.tuple #[m.agg (.slice a m.ups.length cap), .nilIface]) ∧ KeysAt w' a m.ups ∧ Below w.heap.size w w' := by
  obtain ⟨hb, ⟨h, _⟩ | ⟨h, v, he, hrow⟩⟩ := h
  · rw [hd] at h; cases h
  · rw [hd] at h
    cases h
    obtain ⟨a, cap, rfl⟩ := ownsRow_sl hrow
    exact ⟨a, cap, he, (keysAt_row hrow).2, hb⟩

theorem app_length (s t : ByteArray) : (s ++ t).data.toList.length = s.size + t.size := by
  have : (s ++ t).data.toList.length = (s ++ t).size := by simp
  rw [this, ByteArray.size_append]

/-- Both messages lie where they lie, in every world of the rest of the walk. -/
structure BackI (w W : World) (b1 b3 : Nat) (q : M) (a1 : Option Addr) (c1 : Nat) (a3 : Option Addr) (c3 : Nat) : Prop where
  A : W.heap[b1]? = some (.cells #[.int .i64 q.kind, .int .i64 q.frm, .int .i64 q.inc, .int .i64 q.seq, .int .i64 q.tgt, .slice a1 q.ups.length c1] 25 (0, 0))
  B : W.heap[b3]? = some (.cells #[.int .i64 q.kind, .int .i64 q.frm, .int .i64 q.inc, .int .i64 q.seq, .int .i64 q.tgt, .slice a3 q.ups.length c3] 25 (0, 0))
  KA : KeysAt W a1 q.ups
  KB : KeysAt W a3 q.ups
  below : Below w.heap.size w W
  G : ErrType W
theorem BackI.step {w W W' : World} {b1 b3 : Nat} {q : M} {a1 : Option Addr} {c1 : Nat} {a3 : Option Addr} {c3 : Nat} (h : BackI w W b1 b3 q a1 c1 a3 c3) (hb : Below W.heap.size W W') : BackI w W' b1 b3 q a1 c1 a3 c3 :=
  ⟨(hb.block _ (heap_lt h.A)).trans h.A, (hb.block _ (heap_lt h.B)).trans h.B, h.KA.below hb, h.KB.below hb, h.below.trans (hb.mono h.below.size), h.G.below hb⟩

set_option maxHeartbeats 2000000 in
theorem back_any (m : M) (a : Option Addr) (n cap : Nat) (w : World) (hn : m.ups.length = n) (hl : n ≤ 9223372036854775807) (hk : KeysAt w a m.ups) (hf : m.fit) (hg : ErrType w) :
    Calls Tryd.prog 3 #[.agg #[.int .i64 m.kind, .int .i64 m.frm, .int .i64 m.inc, .int .i64 m.seq, .int .i64 m.tgt, .slice a n cap]] w fun e w' => e = .returned (.bool true) ∧ Below w.heap.size w w' := by
  obtain ⟨q, hq⟩ : ∃ q, keepMsg m = q := ⟨_, rfl⟩
  have hw : wholeB q = true := by rw [← hq]; exact keep_whole m
  have h8 := whole_len hw
  obtain ⟨hbk, hsz⟩ := back_plain hw
  have hdec : decodeM ((msgBytes q).map toU8) = some q := by unfold decodeM; rw [if_pos ⟨hsz, by rw [hbk]; exact hw⟩, hbk]
  obtain ⟨S, hS⟩ : ∃ S, strOfNums (msgBytes q) = S := ⟨_, rfl⟩
  have hSl : S.data.toList = (msgBytes q).map toU8 := by rw [← hS]; rfl
  have hSz : S.size = 12 + 6 * q.ups.length := by
    have := congrArg List.length hSl
    rw [List.length_map, msgBytes, List.length_append, head_length, keyBytes_length] at this
    simpa using this
  have hsb : ((S.size : Int) != ((12 : Int) + (6 : Int) * (q.ups.length : Int))) = false := by rw [bne_eq_false_iff_eq]; omega
  have hSm : S.size ≤ 60 := by omega
  have h1S : 1 ≤ S.size := by omega
  have HQ := Lib.hid hq
  have HW := Lib.hid hw
  have HD : Hid (decodeM S.data.toList = some q) := by rw [hSl]; exact hdec
  have HS := Lib.hid hS
  have HSZ := Lib.hid hSz
  have HG := Lib.hid hg
  have HF := Lib.hid hf
  have HN := Lib.hid hn
  have HK := Lib.hid (hk.below ((Below.refl _ w).alloc (Nat.le_refl _) (.cells #[.int .i64 m.kind, .int .i64 m.frm, .int .i64 m.inc, .int .i64 m.seq, .int .i64 m.tgt, .slice a n cap] 24)))
  clear hq hw hbk hsz hdec hS hSl hSz hg hf hn hk
  go_enter Tryd.func3, Tryd.ntmps3
  go_wp2_with fail
  refine (kmsg_any m a n cap _ HN.out hl HK.out HF.out).mono ?_
  rintro e w1 ⟨v, rfl, hrow, hb1⟩
  rw [HQ.out] at hrow ⊢
  obtain ⟨a1, c1, rfl⟩ := ownsRow_sl hrow
  have hka := (keysAt_row hrow).2
  have HB1 := Lib.hid (below_of_alloc (hb1.mono (by simp)))
  have HK1 := Lib.hid (hka.below ((Below.refl _ w1).alloc (Nat.le_refl _) (.cells #[.int .i64 q.kind, .int .i64 q.frm, .int .i64 q.inc, .int .i64 q.seq, .int .i64 q.tgt, .slice a1 q.ups.length c1] 25)))
  have hs1 : w.heap.size ≤ w1.heap.size := HB1.out.size
  clear hrow hka hb1
  unfold M.agg
  go_wp2_with fail
  refine (encode_yes q a1 q.ups.length c1 _ rfl HK1.out HW.out).mono ?_
  rintro e w2 ⟨rfl, hb2⟩
  rw [HS.out]
  have hA2 : w2.heap[w1.heap.size]? = some (.cells #[.int .i64 q.kind, .int .i64 q.frm, .int .i64 q.inc, .int .i64 q.seq, .int .i64 q.tgt, .slice a1 q.ups.length c1] 25 (0, 0)) := (hb2.block _ (by simp)).trans (heap_alloc_eq w1 _)
  have hc2 := cells_at hA2 5
  simp only [List.getElem?_toArray, List.getElem?_cons_succ, List.getElem?_cons_zero] at hc2
  have HA2 := Lib.hid hA2
  have HK2 := Lib.hid (HK1.out.below hb2)
  have HB2 := Lib.hid (HB1.out.trans ((below_of_alloc (hb2.mono (by simp))).mono hs1))
  clear hA2 hb2
  go_wp2_with fail
  refine (decode_any S w2 (by unfold maxLen; omega)).mono ?_
  rintro e w3 hp
  obtain ⟨a3, c3, rfl, hk3, hb3⟩ := decpost_some hp HD.out
  have hI3 : BackI w (w3.alloc (.cells #[.int .i64 q.kind, .int .i64 q.frm, .int .i64 q.inc, .int .i64 q.seq, .int .i64 q.tgt, .slice a3 q.ups.length c3] 25)) w1.heap.size w3.heap.size q a1 c1 a3 c3 :=
    { A := heap_old _ ((hb3.block _ (heap_lt HA2.out)).trans HA2.out)
      B := heap_alloc_eq _ _
      KA := (HK2.out.below hb3).below ((Below.refl _ w3).alloc (Nat.le_refl _) _)
      KB := hk3.below ((Below.refl _ w3).alloc (Nat.le_refl _) _)
      below := (HB2.out.trans (hb3.mono HB2.out.size)).trans (((Below.refl _ w3).alloc (Nat.le_refl _) _).mono (Nat.le_trans HB2.out.size hb3.size))
      G := HG.out.below ((HB2.out.trans (hb3.mono HB2.out.size)).trans (((Below.refl _ w3).alloc (Nat.le_refl _) _).mono (Nat.le_trans HB2.out.size hb3.size))) }
  have HI3 := Lib.hid hI3
  clear hp hk3 hb3 hI3 hc2
  unfold M.agg
  go_wp2_with fail
  refine (decode_any (S.extract 1 S.size) _ (by simp [maxLen]; omega)).mono ?_
  rintro e w4 hp
  obtain ⟨rfl, hb4⟩ := decpost_none hp (decode_odd (by have := HSZ.out; simp; omega))
  have HI4 := Lib.hid ((HI3.out.step hb4).step ((Below.refl _ w4).alloc (Nat.le_refl _) (.cells #[.int .i64 0, .int .i64 0, .int .i64 0, .int .i64 0, .int .i64 0, .slice none 0 0] 25)))
  clear hp hb4
  unfold noMsg
  go_wp2_with fail
  refine (decode_any _ _ ?_).mono ?_
  · rw [ByteArray.size_append]
    refine Nat.le_trans (Nat.add_le_add hSm (Nat.le_refl 1)) (by unfold maxLen; omega)
  rintro e w5 hp
  obtain ⟨rfl, hb5⟩ := decpost_none hp (decode_odd (by
    have h1 := HSZ.out
    rw [app_length]
    show (S.size + 1) % 6 ≠ 0
    omega))
  have HI5 := Lib.hid ((HI4.out.step hb5).step ((Below.refl _ w5).alloc (Nat.le_refl _) (.cells #[.int .i64 0, .int .i64 0, .int .i64 0, .int .i64 0, .int .i64 0, .slice none 0 0] 25)))
  clear hp hb5
  unfold noMsg
  go_wp2_with fail
  refine (told_errno 2 _ HI5.out.G).mono ?_
  rintro e w6 ⟨rfl, hb6⟩
  have HI6 := Lib.hid (HI5.out.step hb6)
  clear hb6
  go_wp2_with fail
  refine (told_errno 2 _ HI6.out.G).mono ?_
  rintro e w7 ⟨rfl, hb7⟩
  have hI7 := HI6.out.step hb7
  have hcA := cells_at hI7.A
  have hcB := cells_at hI7.B
  have HI7 := Lib.hid hI7
  clear hb7 hI7
  go_wp2_with fail
  refine (same_eq q a1 a3 q.ups.length c1 c3 _ rfl (by omega) HI7.out.KA HI7.out.KB).mono ?_
  rintro e w8 ⟨rfl, hb8⟩
  have HB8 := Lib.hid (HI7.out.below.trans (hb8.mono HI7.out.below.size))
  clear hb8 hcA hcB
  go_wp2
  go_ret
  exact ⟨rfl, HB8.out⟩
end Go.Proofs.YtfngdplkcppabaaDoor
