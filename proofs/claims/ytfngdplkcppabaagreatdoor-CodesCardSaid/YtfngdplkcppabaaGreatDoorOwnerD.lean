/-
  gossiplaw: owner: a packet lost; the other kinds; all.
-/
import Derived.Test.YtfngdplkcppabaaGreatDoorOwnerC
import Derived.Test.YtfngdplkcppabaaGreatDoorTaken
namespace Go.Proofs.YtfngdplkcppabaaGreatDoor
open Go.RowKit

set_option maxRecDepth 100000 in
set_option maxHeartbeats 1000000 in
theorem owner_lose (B0 b n : Nat) (w : World) (f : Nat → Value) (d : Sd) (h : SAt B0 b n w f d) (o : Sop) (ho : o.Ok) (hk : o.kind = 12) :
    Calls Tryz.prog 11 #[.pointer (some ⟨b, 0, none⟩), o.v] w (OwnPost B0 b n w f) := by
  obtain ⟨kind, x, oa, ob, oc, od, oe, s⟩ := o
  simp only at hk
  subst hk
  obtain ⟨_, _, ha, hbb, hcc, hdd, hee, hs⟩ := ho
  simp only at ha hbb hcc hdd hee hs
  obtain ⟨w1, hw1⟩ : ∃ w1, w.alloc (.cells #[.int .i64 12, .int .i64 x, .int .i64 oa, .int .i64 ob, .int .i64 oc, .int .i64 od, .int .i64 oe, .string s] 28) = w1 := ⟨_, rfl⟩
  have hb1 : Below w.heap.size w w1 := by rw [← hw1]; exact (Below.refl _ _).alloc (Nat.le_refl _) _
  have hx1 : w1.heap[w.heap.size]? = some (.cells #[.int .i64 12, .int .i64 x, .int .i64 oa, .int .i64 ob, .int .i64 oc, .int .i64 od, .int .i64 oe, .string s] 28 (0, 0)) := by rw [← hw1]; exact heap_alloc_eq w _
  have hsz1 : w1.heap.size = w.heap.size + 1 := by rw [← hw1]; simp
  have hB0 : B0 ≤ w.heap.size := by have := h.hB; have := h.blk.lt; omega
  have hlt := h.blk.lt
  have H := Lib.hid h
  have HS1 := Lib.hid (h.below hb1)
  have HX1 := Lib.hid (cells_at hx1)
  have HSZ1 := Lib.hid hsz1
  have HB1 := Lib.hid hb1
  have HW1 := Lib.hid hw1
  clear hb1 hx1 hsz1 h hw1
  obtain ⟨a, cap, e15⟩ := HS1.out.o15
  obtain ⟨m, hm⟩ : ∃ m, d.ow.length = m := ⟨_, rfl⟩
  have hon := HS1.out.on
  rw [hm] at e15 hon
  have c15 : w1.cell? ⟨b, 15, none⟩ = some (.slice a m cap) := by rw [← e15]; exact HS1.out.blk.cell (by omega)
  have HM := Lib.hid hm
  clear hm e15
  unfold Sop.v
  go_enter Tryz.func11, Tryz.ntmps11
  go_upto_region 23 with (fail)
  rw [HW1.out]
  have x2 := HX1.out 2
  simp only [List.getElem?_toArray, List.getElem?_cons_succ, List.getElem?_cons_zero] at x2
  by_cases h0 : m = 0
  · subst h0
    go_wp2
    go_ret
    exact ⟨rfl, f, d, HS1.out.mono (by omega), rfl, Below.andChg HB1.out (Chg.refl _ _)⟩
  · obtain ⟨k, hk⟩ : ∃ k, pickS oa m = k := ⟨_, rfl⟩
    have hpos : 0 < m := by omega
    have hkm := pickS_lt oa m hpos
    rw [hk] at hkm
    go_wp2_with fail
    go_region_with (go_at_call 19; refine (pickS_any _ _ _ ha ⟨hpos, by omega⟩).mono ?_; rintro e w' ⟨rfl, rfl⟩; rw [hk])
    all_goals
      have HT := Lib.hid (wtake_any B0 b n w1.drew f d (HS1.out.below (Below.refl _ _).drew) k (by rw [HM.out]; exact hkm))
      go_wp2_with fail
      refine HT.out.mono ?_
      rintro e w3 ⟨rfl, f', hS, hf', hC⟩
      have HS := Lib.hid hS
      have HF := Lib.hid hf'
      have HC := Lib.hid (Below.andChg (HB1.out.drew) hC)
      clear hS hf' hC
      go_wp2
      go_ret
      exact ⟨rfl, f', _, HS.out, HF.out, HC.out⟩

def ownKind (k : Int) : Prop := k = 1 ∨ k = 2 ∨ k = 3 ∨ k = 4 ∨ k = 7 ∨ k = 8 ∨ k = 12
instance (k : Int) : Decidable (ownKind k) := by unfold ownKind; exact inferInstance
set_option maxRecDepth 100000 in
theorem owner_none (b : Nat) (w : World) (o : Sop) (hk : ¬ ownKind o.kind) :
    Calls Tryz.prog 11 #[.pointer (some ⟨b, 0, none⟩), o.v] w fun e w' => e = .returned (.bool false) ∧ Below w.heap.size w w' := by
  obtain ⟨kind, x, oa, ob, oc, od, oe, s⟩ := o
  simp only [ownKind, not_or] at hk
  obtain ⟨h1, h2, h3, h4, h7, h8, h12⟩ := hk
  have b1 : (kind == 1) = false := beq_eq_false_iff_ne.2 h1
  have b2 : (kind == 2) = false := beq_eq_false_iff_ne.2 h2
  have b3 : (kind == 3) = false := beq_eq_false_iff_ne.2 h3
  have b4 : (kind == 4) = false := beq_eq_false_iff_ne.2 h4
  have b7 : (kind == 7) = false := beq_eq_false_iff_ne.2 h7
  have b8 : (kind == 8) = false := beq_eq_false_iff_ne.2 h8
  have b12 : (kind == 12) = false := beq_eq_false_iff_ne.2 h12
  clear h1 h2 h3 h4 h7 h8 h12
  unfold Sop.v
  go_enter Tryz.func11, Tryz.ntmps11
  go_wp2
  go_ret
  exact ⟨rfl, (Below.refl _ _).alloc (Nat.le_refl _) _⟩
theorem owner_own (B0 b n : Nat) (w : World) (f : Nat → Value) (d : Sd) (h : SAt B0 b n w f d) (o : Sop) (ho : o.Ok) (hk : ownKind o.kind) (hn : n ≤ 100000) :
    Calls Tryz.prog 11 #[.pointer (some ⟨b, 0, none⟩), o.v] w (OwnPost B0 b n w f) := by
  rcases hk with hk | hk | hk | hk | hk | hk | hk
  · exact owner_text B0 b n w f d h o ho hk hn
  · exact owner_turn B0 b n w f d h o ho hk hn
  · exact owner_message B0 b n w f d h o ho hk
  · exact owner_update B0 b n w f d h o ho hk hn
  · exact owner_draw B0 b n w f d h o ho hk hn
  · exact owner_shape B0 b n w f d h o ho hk
  · exact owner_lose B0 b n w f d h o ho hk
end Go.Proofs.YtfngdplkcppabaaGreatDoor
