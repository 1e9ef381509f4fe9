/-
  wire.Bytes: a message's bytes.
-/
import Derived.Test.YtfngdplkcppabaaGreatDoorPut
namespace Go.Proofs.YtfngdplkcppabaaGreatDoor
open Go.RowKit

/-- A key's bytes. -/
def keyBytes (k : K) : List Int := be 1 k.id ++ be 4 k.inc ++ be 1 k.st
/-- The bytes ahead of the updates. -/
def headBytes (kind frm inc seq tgt n : Int) : List Int := be 1 kind ++ be 1 frm ++ (be 4 inc ++ be 4 seq) ++ (be 1 tgt ++ be 1 n)
/-- A message's bytes. -/
def msgBytes (m : M) : List Int := headBytes m.kind m.frm m.inc m.seq m.tgt m.ups.length ++ m.ups.flatMap keyBytes

/-- The box of a message by value, and what stays of it. -/
theorem box_stays {B p : Nat} {w w' : World} {cs : Array Value} {t : TypeId} (h : Chg (SW B p) (w.alloc (.cells cs t)) w') (hp : w.heap.size ≠ p) (ht : t ≠ 5) (k : Nat) : w'.cell? ⟨w.heap.size, k, none⟩ = cs[k]? :=
  cells_at (h.kept _ _ (heap_alloc_new w _) (by
    rintro (e | ⟨_, c, f, e⟩)
    · exact hp e
    · simp only [Obj.cells.injEq] at e; exact ht e.2.1)) k
theorem W2.root {B p : Nat} {w0 w : World} {v : Value} {xs : List Value} (h : W2 B p w0 w v xs) : W2 B p w w v xs := ⟨h.1, h.2.1, Chg.refl _ _⟩
theorem W2.onto {B p : Nat} {w0 w1 w : World} {v : Value} {xs : List Value} (h : W2 B p w1 w v xs) (h' : Chg (SW B p) w0 w1) : W2 B p w0 w v xs := ⟨h.1, h.2.1, h'.trans h.2.2⟩

theorem keyBytes_length (l : List K) : (l.flatMap keyBytes).length = 6 * l.length := by
  induction l with
  | nil => simp
  | cons a l ih => rw [List.flatMap_cons, List.length_append, ih]; simp [keyBytes, be]; omega
theorem W2.intro {B p : Nat} {w0 w : World} {v : Value} (hp : w.heap[p]? = some (.cells #[v] 155 (0, 0))) (ho : w.ownsRow B 5 1 v 0 []) (hb : Chg (SW B p) w0 w) : W2 B p w0 w v [] := ⟨hp, ho, hb⟩

theorem convert_own {B n : Nat} {w : World} {v : Value} {bs : List Int} (h : w.ownsRow B 5 1 v n (bs.map byteV)) :
    ∀ dst, Tryz.prog.underlying dst = some .string → (convert 155 dst v).run Tryz.prog w = .ok (.string (strOfNums bs)) w := by
  intro dst hd
  rcases h.2 with ⟨rfl, rfl⟩ | ⟨g, cap, cur, rfl, hg⟩
  · have : bs = [] := by have := h.1; simpa using this
    subst this
    exact run_convert_bytes_nil w _ 5 Tryz.underlying155 Tryz.underlying5 _ _ dst hd
  · refine run_convert_bytes_arg w _ 5 Tryz.underlying155 Tryz.underlying5 g 0 n cap bs (by have := h.1; simpa using this) (fun i hi => ?_) dst hd
    rw [Nat.zero_add, h.cellAt i (by omega)]
    have hi' : i < bs.length := by have := h.1; simp at this; omega
    simp [byteV, List.getD, hi']

set_option maxHeartbeats 1000000 in
theorem bytes_any (kind frm inc seq tgt : Int) (l : List K) (a : Option Addr) (cap : Nat) (w : World) (hl : l.length ≤ 8) (hk : KeysAt w a l) :
    Calls Tryz.prog 46 #[.agg #[.int .i64 kind, .int .i64 frm, .int .i64 inc, .int .i64 seq, .int .i64 tgt, .slice a l.length cap]] w fun e w' =>
      e = .returned (.string (strOfNums (msgBytes ⟨kind, frm, inc, seq, tgt, l⟩))) ∧ Below w.heap.size w w' := by
  have HK := Lib.hid hk
  clear hk
  obtain ⟨i0, hi, hz0, hz1, hz2⟩ := info_parts info_u8
  go_enter Tryz.func46, Tryz.ntmps46
  go_wp2_with (first | (at_make; refine wpList_make_own _ rfl _ _ 155 rfl (w.heap.size + 1) 5 i0 (.int .u8 0) 1 Tryz.underlying155 hi hz0 hz1 .i64 .i64 _ (12 + 6 * l.length) rfl rfl (by omega) (by rw [hz2]; omega) (by unfold maxLen; omega) (by simp) ?_))
  intro w1 hown1 hgrow1
  have hs1 := hgrow1.size
  rw [World.size_alloc] at hs1
  have hC1 : Chg (SW (w.heap.size + 1) w1.heap.size) _ w1 := (Chg.refl _ _).grown hgrow1 (fun k o h _ => by cases h)
  have hne : w.heap.size ≠ w1.heap.size := by omega
  have hW1 := W2.intro (p := w1.heap.size) (heap_new w1 (.cells #[_] 155) rfl) (hown1.alloc _) (hC1.alloc _)
  have hb1 := box_stays hW1.2.2 hne (by decide)
  have HW1 := Lib.hid hW1
  clear hW1 hown1 hgrow1 hC1
  go_wp2_with fail
  refine (put_two _ _ _ [] 1 _ _ _ _ _ _ (HW1.out.alloc _) (heap_new _ _ (by simp)) hs1 rfl (by omega) (by simp)).mono ?_
  rintro e w2 ⟨v2, rfl, hW2⟩
  have hb2 := box_stays hW2.2.2 hne (by decide)
  have HW2 := Lib.hid hW2
  clear hW2 hb1
  go_wp2_with fail
  refine (put_two _ _ _ _ 4 _ _ _ _ _ _ (HW2.out.alloc _) (heap_new _ _ rfl) hs1 rfl (by omega) (by simp [be])).mono ?_
  rintro e w3 ⟨v3, rfl, hW3⟩
  have hb3 := box_stays hW3.2.2 hne (by decide)
  have HW3 := Lib.hid hW3
  clear hW3 hb2
  go_wp2_with fail
  refine (put_two _ _ _ _ 1 _ _ _ _ _ _ (HW3.out.alloc _) (heap_new _ _ rfl) hs1 rfl (by omega) (by simp [be])).mono ?_
  rintro e w4 ⟨v4, rfl, hW4⟩
  have hb4 := box_stays hW4.2.2 hne (by decide)
  have HW4 := Lib.hid hW4
  clear hW4 hb3 HW1 HW2 HW3
  obtain ⟨wb, hwb⟩ : ∃ wb, wb = w.alloc (.cells #[.int .i64 kind, .int .i64 frm, .int .i64 inc, .int .i64 seq, .int .i64 tgt, .slice a l.length cap] 68) := ⟨_, rfl⟩
  rw [← hwb] at HW4
  have HWB := Lib.hid hwb
  clear hwb
  go_wp2_with fail
  go_loopw [34] (fun i wr => ∃ (k : Nat) (v : Value), k ≤ l.length ∧ i = .int .i64 k ∧ W2 (w.heap.size + 1) w1.heap.size wb wr v ((headBytes kind frm inc seq tgt l.length ++ (l.take k).flatMap keyBytes).map byteV)) (fun i _ => l.length - (intOf i).toNat)
  case atStart => exact ⟨0, _, Nat.zero_le _, rfl, by have := HW4.out; simpa [headBytes] using this⟩
  case round =>
    obtain ⟨k, v, hkl, rfl, hW⟩ := hrel
    have hBel : Below (w.heap.size + 1) wb wr := hW.2.2.below (by rw [HWB.out]; simp) (fun k o h => h.elim (fun e => by omega) (fun e => e.1))
    by_cases hlt : k < l.length
    · obtain ⟨b, off, rfl, hbl, c0, c1, c2⟩ := HK.out k l[k] (List.getElem?_eq_getElem hlt)
      have hbw : ∀ j, wr.cell? ⟨b, j, none⟩ = w.cell? ⟨b, j, none⟩ := fun j => by
        rw [hBel.cell (show b < w.heap.size + 1 by omega), HWB.out, World.cell?_alloc_lt _ _ _ hbl]
      rw [← hbw] at c0 c1 c2
      clear hbw
      have hwr : wr.heap.size ≠ w1.heap.size := by have := heap_lt hW.1; omega
      have HW := Lib.hid hW
      clear hW
      go_wp2_with fail
      have hlen : ((headBytes kind frm inc seq tgt l.length ++ (l.take k).flatMap keyBytes).map byteV).length ≤ 100 := by
        rw [List.length_map, List.length_append, keyBytes_length, List.length_take]
        have : (headBytes kind frm inc seq tgt l.length).length = 12 := by simp [headBytes, be]
        omega
      refine (put_one _ _ _ _ 1 _ _ _ _ _ ((HW.out.root.alloc (.cells #[.int .i64 l[k].id, .int .i64 l[k].inc, .int .i64 l[k].st] 76)).root.alloc _) (heap_new _ _ (by simp)) hs1 rfl (by omega) (by omega)).mono ?_
      rintro e w5 ⟨v5, rfl, hW5⟩
      have hu5 := box_stays hW5.2.2 hwr (by decide)
      have HW5 := Lib.hid hW5
      clear hW5
      go_wp2_with fail
      refine (put_one _ _ _ _ 4 _ _ _ _ _ (HW5.out.alloc _) (heap_new _ _ rfl) hs1 rfl (by omega) (by simp [be] at hlen ⊢; omega)).mono ?_
      rintro e w6 ⟨v6, rfl, hW6⟩
      have hu6 := box_stays hW6.2.2 hwr (by decide)
      have HW6 := Lib.hid hW6
      clear hW6 hu5
      go_wp2_with fail
      refine (put_one _ _ _ _ 1 _ _ _ _ _ (HW6.out.alloc _) (heap_new _ _ rfl) hs1 rfl (by omega) (by simp [be] at hlen ⊢; omega)).mono ?_
      rintro e w7 ⟨v7, rfl, hW7⟩
      have HW7 := Lib.hid hW7
      clear hW7 hu6
      go_wp2_with fail
      go_roundw
      case rel => exact ⟨k + 1, v7, by omega, by go_num, by
        have h := HW7.out.onto (HW.out.2.2.alloc _)
        rw [List.take_succ_eq_append_getElem hlt]
        simp only [List.flatMap_append, List.flatMap_cons, List.flatMap_nil, List.append_nil, List.map_append, List.append_assoc, keyBytes] at h ⊢
        exact h⟩
      case measure => simp [intOf]; omega
    · have hk' : k = l.length := by omega
      subst hk'
      rw [List.take_length] at hW
      have hp := cells_at hW.1 0
      have hcv := convert_own hW.2.1
      go_wp2
      go_ret
      exact ⟨rfl, below_of_alloc (by rw [HWB.out] at hBel; exact hBel.mono (by omega))⟩
end Go.Proofs.YtfngdplkcppabaaGreatDoor
