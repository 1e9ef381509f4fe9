/-
  gossiplaw: owner: a step on what the caller owns.
-/
import Derived.Test.YtfngdplkcppabaaGreatDoorText
import Derived.Test.YtfngdplkcppabaaGreatDoorSatGen
namespace Go.Proofs.YtfngdplkcppabaaGreatDoor
open Go.RowKit

/-- A step of a script. -/
structure Sop where
  kind : Int
  x : Int
  a : Int
  b : Int
  c : Int
  d : Int
  e : Int
  s : ByteArray
def Sop.v (o : Sop) : Value := .agg #[.int .i64 o.kind, .int .i64 o.x, .int .i64 o.a, .int .i64 o.b, .int .i64 o.c, .int .i64 o.d, .int .i64 o.e, .string o.s]
structure Sop.Ok (o : Sop) : Prop where
  kind : fits o.kind
  x : fits o.x
  a : fits o.a
  b : fits o.b
  c : fits o.c
  d : fits o.d
  e : fits o.e
  s : o.s.size ≤ 16384
def OwnPost (B0 b n : Nat) (w : World) (f : Nat → Value) (e : Ending) (w' : World) : Prop :=
  e = .returned (.bool true) ∧ ∃ f' d', SAt B0 b (n + 1) w' f' d' ∧ f' 14 = f 14 ∧ Chg (SQ B0 b) w w'
theorem info_string : (Tryz.prog.info? 9).map (fun i => (i.zero, i.size, i.bytes)) = some (some (.string ⟨#[]⟩), 1, 16) := by kernel_rfl

set_option maxRecDepth 100000 in
set_option maxHeartbeats 1000000 in
theorem owner_text (B0 b n : Nat) (w : World) (f : Nat → Value) (d : Sd) (h : SAt B0 b n w f d) (o : Sop) (ho : o.Ok) (hk : o.kind = 1) (hn : n ≤ 100000) :
    Calls Tryz.prog 11 #[.pointer (some ⟨b, 0, none⟩), o.v] w (OwnPost B0 b n w f) := by
  obtain ⟨kind, x, oa, ob, oc, od, oe, s⟩ := o
  simp only at hk
  subst hk
  have hs := ho.s
  simp only at hs
  obtain ⟨a, cap, e0⟩ := h.t0
  have htn := h.tn
  have c0 : w.cell? ⟨b, 0, none⟩ = some (.slice a d.ts.length cap) := by rw [← e0]; exact h.blk.cell (by omega)
  have fr0 := h.blk.free 0
  have htr := h.tr
  rw [e0] at htr
  have H := Lib.hid h
  have HR := Lib.hid htr
  obtain ⟨m, hm⟩ : ∃ m, d.ts.length = m := ⟨_, rfl⟩
  rw [hm] at c0 HR htn
  have HM := Lib.hid hm
  clear htr h hm ho
  obtain ⟨i0, hi, hz0, hz1, hz2⟩ := info_parts info_string
  obtain ⟨w1, hw1⟩ : ∃ w1, w.alloc (.cells #[.int .i64 1, .int .i64 x, .int .i64 oa, .int .i64 ob, .int .i64 oc, .int .i64 od, .int .i64 oe, .string s] 28) = w1 := ⟨_, rfl⟩
  have hb1 : Below w.heap.size w w1 := by rw [← hw1]; exact (Below.refl _ _).alloc (Nat.le_refl _) _
  have hx1 : w1.heap[w.heap.size]? = some (.cells #[.int .i64 1, .int .i64 x, .int .i64 oa, .int .i64 ob, .int .i64 oc, .int .i64 od, .int .i64 oe, .string s] 28 (0, 0)) := by rw [← hw1]; exact heap_alloc_eq w _
  have hsz1 : w1.heap.size = w.heap.size + 1 := by rw [← hw1]; simp
  have c0' : w1.cell? ⟨b, 0, none⟩ = some (.slice a m cap) := (hb1.cell H.out.blk.lt).trans c0
  have hR1 := own_under HR.out hb1
  have hB0 : B0 ≤ w.heap.size := by have := H.out.hB; have := H.out.blk.lt; omega
  have hnew := cells_new w1 [.string s] 9 (n := w1.heap.size) rfl
  have HX1 := Lib.hid (cells_at hx1)
  have HSZ1 := Lib.hid hsz1
  have HB1 := Lib.hid hb1
  have HRW := Lib.hid (hR1.alloc (.cells #[.string s] 9)).drew
  have HNEW : Hid (∀ j u, [Value.string s][j]? = some u → (w1.alloc (.cells #[.string s] 9)).drew.cell? ((⟨w1.heap.size, 0, none⟩ : Addr).add j) = some u) := hnew
  have HW1 := Lib.hid hw1
  have k3 : m + 1 ≤ maxLen := by unfold maxLen; omega
  have K3 := Lib.hid k3
  have E0 := Lib.hid e0
  clear hb1 hx1 hsz1 hR1 hnew hw1 k3 e0 c0
  unfold Sop.v
  go_enter Tryz.func11, Tryz.ntmps11
  go_wp2_with fail
  rw [HW1.out]
  have ca : ∀ o, (w1.alloc o).cell? ⟨b, 0, none⟩ = some (.slice a m cap) := fun o => by rw [World.cell?_alloc_lt _ _ _ (World.block_lt_of_cell? _ _ c0')]; exact c0'
  have cx := HX1.out 7
  simp only [List.getElem?_toArray, List.getElem?_cons_succ, List.getElem?_cons_zero] at cx
  go_region_law (refine step_append_to rfl _ _ _ rfl B0 9 i0 _ 1 16 Tryz.underlying30 hi hz0 hz1 hz2 rfl (by decide) (.slice a m cap) m _ rfl HRW.out ⟨w1.heap.size, 0, none⟩ 1 1 _ rfl rfl HNEW.out (by simp [Value.oneCell']) (by omega) K3.out (by omega) (by have := HSZ1.out; simp; omega) ?_; intro g gc w4 hl4 hto4; obtain ⟨ct, ft, hS4, hC4⟩ := H.out.text hs ((HB1.out.alloc (by have := HSZ1.out; omega) (.cells #[.string s] 9)).drew) (by rw [HM.out]; exact hl4) (by rw [E0.out, HM.out]; exact hto4); have HS4 := Lib.hid hS4; have HC4 := Lib.hid hC4; rw [HM.out] at HS4 HC4; rw [E0.out, HM.out] at ct; clear hS4 hC4)
  all_goals
    go_wp2
    go_ret
    exact ⟨rfl, _, _, HS4.out, upd_other _ _ _ (by omega), HC4.out⟩

set_option maxRecDepth 100000 in
set_option maxHeartbeats 1000000 in
theorem owner_message (B0 b n : Nat) (w : World) (f : Nat → Value) (d : Sd) (h : SAt B0 b n w f d) (o : Sop) (ho : o.Ok) (hk : o.kind = 3) :
    Calls Tryz.prog 11 #[.pointer (some ⟨b, 0, none⟩), o.v] w (OwnPost B0 b n w f) := by
  obtain ⟨kind, x, oa, ob, oc, od, oe, s⟩ := o
  simp only at hk
  subst hk
  obtain ⟨_, _, ha, hbb, hcc, hdd, hee, hs⟩ := ho
  simp only at ha hbb hcc hdd hee hs
  obtain ⟨w1, hw1⟩ : ∃ w1, w.alloc (.cells #[.int .i64 3, .int .i64 x, .int .i64 oa, .int .i64 ob, .int .i64 oc, .int .i64 od, .int .i64 oe, .string s] 28) = w1 := ⟨_, rfl⟩
  have hb1 : Below w.heap.size w w1 := by rw [← hw1]; exact (Below.refl _ _).alloc (Nat.le_refl _) _
  have hx1 : w1.heap[w.heap.size]? = some (.cells #[.int .i64 3, .int .i64 x, .int .i64 oa, .int .i64 ob, .int .i64 oc, .int .i64 od, .int .i64 oe, .string s] 28 (0, 0)) := by rw [← hw1]; exact heap_alloc_eq w _
  have hsz1 : w1.heap.size = w.heap.size + 1 := by rw [← hw1]; simp
  have hB0 : B0 ≤ w.heap.size := by have := h.hB; have := h.blk.lt; omega
  have hlt := h.blk.lt
  have H := Lib.hid h
  have HS1 := Lib.hid (h.below hb1)
  have HX1 := Lib.hid (cells_at hx1)
  have HSZ1 := Lib.hid hsz1
  have HB1 := Lib.hid hb1
  have HW1 := Lib.hid hw1
  clear hb1 hx1 hsz1 h hw1
  unfold Sop.v
  go_enter Tryz.func11, Tryz.ntmps11
  go_upto_region 11 with (fail)
  rw [HW1.out]
  have fr := HS1.out.blk.free
  have c1 : w1.cell? ⟨b, 1, none⟩ = some (f 1) := HS1.out.blk.cell (by omega)
  have c2 : w1.cell? ⟨b, 2, none⟩ = some (f 2) := HS1.out.blk.cell (by omega)
  have c3 : w1.cell? ⟨b, 3, none⟩ = some (f 3) := HS1.out.blk.cell (by omega)
  have c4 : w1.cell? ⟨b, 4, none⟩ = some (f 4) := HS1.out.blk.cell (by omega)
  have c5 : w1.cell? ⟨b, 5, none⟩ = some (f 5) := HS1.out.blk.cell (by omega)
  have c6 : w1.cell? ⟨b, 6, none⟩ = some (f 6) := HS1.out.blk.cell (by omega)
  have x2 := HX1.out 2
  have x3 := HX1.out 3
  have x4 := HX1.out 4
  have x5 := HX1.out 5
  have x6 := HX1.out 6
  simp only [List.getElem?_toArray, List.getElem?_cons_succ, List.getElem?_cons_zero] at x2 x3 x4 x5 x6
  go_wp2
  go_ret
  have hc : Chg (fun k _ => k = b) w1 ((((((w1.setCell ⟨b, 1, none⟩ (.int .i64 oa)).setCell ⟨b, 2, none⟩ (.int .i64 ob)).setCell ⟨b, 3, none⟩ (.int .i64 oc)).setCell ⟨b, 4, none⟩ (.int .i64 od)).setCell ⟨b, 5, none⟩ (.int .i64 oe)).setCell ⟨b, 6, none⟩ (.slice none 0 0)) :=
    ((((((Chg.refl (fun k _ => k = b) w1).setCell (p := ⟨b, 1, none⟩) _ (fun _ _ => rfl)).setCell (p := ⟨b, 2, none⟩) _ (fun _ _ => rfl)).setCell (p := ⟨b, 3, none⟩) _ (fun _ _ => rfl)).setCell (p := ⟨b, 4, none⟩) _ (fun _ _ => rfl)).setCell (p := ⟨b, 5, none⟩) _ (fun _ _ => rfl)).setCell (p := ⟨b, 6, none⟩) _ (fun _ _ => rfl)
  have hblk := (((((HS1.out.blk.set (i := 1) (by omega) (.int .i64 oa)).set (i := 2) (by omega) (.int .i64 ob)).set (i := 3) (by omega) (.int .i64 oc)).set (i := 4) (by omega) (.int .i64 od)).set (i := 5) (by omega) (.int .i64 oe)).set (i := 6) (by omega) (.slice none 0 0)
  have K := HS1.out.kept (T := [41]) hc (HS1.out.onlyB)
  refine ⟨rfl, _, { d with m := ⟨oa, ob, oc, od, oe, []⟩ }, HS1.out.turnM (d' := { d with m := ⟨oa, ob, oc, od, oe, []⟩ }) K hblk (fun i _ h1 h2 h3 h4 h5 h6 => by simp [upd, h1, h2, h3, h4, h5, h6]) rfl rfl rfl rfl rfl rfl rfl rfl (by decide) (by decide) (by decide) (by decide) (by decide) (by decide) (by decide)
    rfl rfl rfl rfl rfl ⟨none, 0, rfl, RKeys.none _⟩ (by simp), by simp [upd], hc.after HB1.out (fun _ _ _ e => ⟨e ▸ H.out.hB, .inl e⟩)⟩

set_option maxRecDepth 100000 in
set_option maxHeartbeats 1000000 in
theorem owner_shape (B0 b n : Nat) (w : World) (f : Nat → Value) (d : Sd) (h : SAt B0 b n w f d) (o : Sop) (ho : o.Ok) (hk : o.kind = 8) :
    Calls Tryz.prog 11 #[.pointer (some ⟨b, 0, none⟩), o.v] w (OwnPost B0 b n w f) := by
  obtain ⟨kind, x, oa, ob, oc, od, oe, s⟩ := o
  simp only at hk
  subst hk
  obtain ⟨_, _, ha, hbb, hcc, hdd, hee, hs⟩ := ho
  simp only at ha hbb hcc hdd hee hs
  obtain ⟨w1, hw1⟩ : ∃ w1, w.alloc (.cells #[.int .i64 8, .int .i64 x, .int .i64 oa, .int .i64 ob, .int .i64 oc, .int .i64 od, .int .i64 oe, .string s] 28) = w1 := ⟨_, rfl⟩
  have hb1 : Below w.heap.size w w1 := by rw [← hw1]; exact (Below.refl _ _).alloc (Nat.le_refl _) _
  have hx1 : w1.heap[w.heap.size]? = some (.cells #[.int .i64 8, .int .i64 x, .int .i64 oa, .int .i64 ob, .int .i64 oc, .int .i64 od, .int .i64 oe, .string s] 28 (0, 0)) := by rw [← hw1]; exact heap_alloc_eq w _
  have hsz1 : w1.heap.size = w.heap.size + 1 := by rw [← hw1]; simp
  have hB0 : B0 ≤ w.heap.size := by have := h.hB; have := h.blk.lt; omega
  have hlt := h.blk.lt
  have H := Lib.hid h
  have HS1 := Lib.hid (h.below hb1)
  have HX1 := Lib.hid (cells_at hx1)
  have HSZ1 := Lib.hid hsz1
  have HB1 := Lib.hid hb1
  have HW1 := Lib.hid hw1
  clear hb1 hx1 hsz1 h hw1
  unfold Sop.v
  go_enter Tryz.func11, Tryz.ntmps11
  go_upto_region 21 with (fail)
  rw [HW1.out]
  have fr := HS1.out.blk.free
  have c8 : w1.cell? ⟨b, 8, none⟩ = some (f 8) := HS1.out.blk.cell (by omega)
  have c9 : w1.cell? ⟨b, 9, none⟩ = some (f 9) := HS1.out.blk.cell (by omega)
  have c10 : w1.cell? ⟨b, 10, none⟩ = some (f 10) := HS1.out.blk.cell (by omega)
  have c11 : w1.cell? ⟨b, 11, none⟩ = some (f 11) := HS1.out.blk.cell (by omega)
  have c12 : w1.cell? ⟨b, 12, none⟩ = some (f 12) := HS1.out.blk.cell (by omega)
  have c13 : w1.cell? ⟨b, 13, none⟩ = some (f 13) := HS1.out.blk.cell (by omega)
  have x2 := HX1.out 2
  have x3 := HX1.out 3
  have x4 := HX1.out 4
  have x5 := HX1.out 5
  have x6 := HX1.out 6
  simp only [List.getElem?_toArray, List.getElem?_cons_succ, List.getElem?_cons_zero] at x2 x3 x4 x5 x6
  go_wp2
  go_ret
  have hc : Chg (fun k _ => k = b) w1 ((((((w1.setCell ⟨b, 8, none⟩ (.int .i64 0)).setCell ⟨b, 9, none⟩ (.int .i64 oa)).setCell ⟨b, 10, none⟩ (.int .i64 ob)).setCell ⟨b, 11, none⟩ (.int .i64 oc)).setCell ⟨b, 12, none⟩ (.int .i64 od)).setCell ⟨b, 13, none⟩ (.int .i64 oe)) :=
    ((((((Chg.refl (fun k _ => k = b) w1).setCell (p := ⟨b, 8, none⟩) _ (fun _ _ => rfl)).setCell (p := ⟨b, 9, none⟩) _ (fun _ _ => rfl)).setCell (p := ⟨b, 10, none⟩) _ (fun _ _ => rfl)).setCell (p := ⟨b, 11, none⟩) _ (fun _ _ => rfl)).setCell (p := ⟨b, 12, none⟩) _ (fun _ _ => rfl)).setCell (p := ⟨b, 13, none⟩) _ (fun _ _ => rfl)
  have hblk := (((((HS1.out.blk.set (i := 8) (by omega) (.int .i64 0)).set (i := 9) (by omega) (.int .i64 oa)).set (i := 10) (by omega) (.int .i64 ob)).set (i := 11) (by omega) (.int .i64 oc)).set (i := 12) (by omega) (.int .i64 od)).set (i := 13) (by omega) (.int .i64 oe)
  have K := HS1.out.kept (T := [41]) hc (HS1.out.onlyB)
  refine ⟨rfl, _, d, HS1.out.turnC (d' := d) K hblk (fun i _ h1 h2 h3 h4 h5 h6 => by simp [upd, h1, h2, h3, h4, h5, h6]) rfl rfl rfl rfl rfl rfl rfl rfl rfl (by decide) (by decide) (by decide) (by decide) (by decide) (by decide) (by decide) (by decide)
    (fun i h8 h14 => ?_), by simp [upd], hc.after HB1.out (fun _ _ _ e => ⟨e ▸ H.out.hB, .inl e⟩)⟩
  have : i = 8 ∨ i = 9 ∨ i = 10 ∨ i = 11 ∨ i = 12 ∨ i = 13 := by omega
  rcases this with rfl | rfl | rfl | rfl | rfl | rfl
  · exact ⟨0, by simp [upd], by unfold fits; omega⟩
  · exact ⟨oa, by simp [upd], ha⟩
  · exact ⟨ob, by simp [upd], hbb⟩
  · exact ⟨oc, by simp [upd], hcc⟩
  · exact ⟨od, by simp [upd], hdd⟩
  · exact ⟨oe, by simp [upd], hee⟩
end Go.Proofs.YtfngdplkcppabaaGreatDoor
