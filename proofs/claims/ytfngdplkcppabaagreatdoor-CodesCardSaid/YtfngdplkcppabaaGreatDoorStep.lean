/-
  gossiplaw: step: a step on what the caller owns; Encode; Decode.
-/
import Derived.Test.YtfngdplkcppabaaGreatDoorOwnerD
namespace Go.Proofs.YtfngdplkcppabaaGreatDoor
open Go.RowKit

def StepPost (B0 b n : Nat) (w : World) (f : Nat → Value) (e : Ending) (w' : World) : Prop :=
  e = .returned (.bool true) ∧ ∃ f' d', SAt B0 b (n + 3) w' f' d' ∧ f' 14 = f 14 ∧ Chg (SQ B0 b) w w'
theorem ErrType.sq {B0 b : Nat} {w w' : World} (h : ErrType w) (hc : Chg (SQ B0 b) w w') (hB : 0 < B0) : ErrType w' := by
  have hl := h.lt
  obtain ⟨o, ho⟩ : ∃ o, w.heap[0]? = some o := ⟨_, Array.getElem?_eq_getElem hl⟩
  unfold ErrType World.cell? at *
  rw [hc.kept 0 o ho (fun hs => by have := hs.1; omega)]
  rw [ho] at h
  exact h
theorem Chg.belowB {B0 b : Nat} {w w' : World} (hc : Chg (SQ B0 b) w w') (hB : B0 ≤ w.heap.size) : Below B0 w w' := hc.below hB (fun _ _ h => h.1)

set_option maxRecDepth 100000 in
set_option maxHeartbeats 1000000 in
theorem step_own (B0 b n : Nat) (w : World) (f : Nat → Value) (d : Sd) (h : SAt B0 b n w f d) (o : Sop) (ho : o.Ok) (hk : ownKind o.kind) (hn : n ≤ 100000) :
    Calls Tryz.prog 10 #[.pointer (some ⟨b, 0, none⟩), o.v] w (StepPost B0 b n w f) := by
  have hw1 : Below w.heap.size w (w.alloc (.cells #[.int .i64 o.kind, .int .i64 o.x, .int .i64 o.a, .int .i64 o.b, .int .i64 o.c, .int .i64 o.d, .int .i64 o.e, .string o.s] 28)) := (Below.refl _ _).alloc (Nat.le_refl _) _
  have hcon := owner_own B0 b n _ f d (h.below hw1) o ho hk hn
  have HCON := Lib.hid hcon
  have HB1 := Lib.hid hw1
  clear hw1 hcon h
  unfold Sop.v at *
  go_enter Tryz.func10, Tryz.ntmps10
  go_wp2_with fail
  refine HCON.out.mono ?_
  rintro e w2 ⟨rfl, f', d', hS, hf, hC⟩
  have HS := Lib.hid hS
  have HF := Lib.hid hf
  have HC := Lib.hid (Below.andChg HB1.out hC)
  clear hS hf hC
  go_wp2
  go_ret
  exact ⟨rfl, f', d', HS.out.mono (by omega), HF.out, HC.out⟩

set_option maxRecDepth 100000 in
set_option maxHeartbeats 1000000 in
theorem step_encode (B0 b n : Nat) (w : World) (f : Nat → Value) (d : Sd) (h : SAt B0 b n w f d) (hg : ErrType w) (o : Sop) (ho : o.Ok) (hk : o.kind = 5) (hn : n ≤ 100000) :
    Calls Tryz.prog 10 #[.pointer (some ⟨b, 0, none⟩), o.v] w (StepPost B0 b n w f) := by
  obtain ⟨kind, x, oa, ob, oc, od, oe, s⟩ := o
  simp only at hk
  subst hk
  obtain ⟨_, _, ha, hbb, hcc, hdd, hee, hs⟩ := ho
  simp only at ha hbb hcc hdd hee hs
  obtain ⟨w1, hw1⟩ : ∃ w1, w.alloc (.cells #[.int .i64 5, .int .i64 x, .int .i64 oa, .int .i64 ob, .int .i64 oc, .int .i64 od, .int .i64 oe, .string s] 28) = w1 := ⟨_, rfl⟩
  have hb1 : Below w.heap.size w w1 := by rw [← hw1]; exact (Below.refl _ _).alloc (Nat.le_refl _) _
  have hx1 : w1.heap[w.heap.size]? = some (.cells #[.int .i64 5, .int .i64 x, .int .i64 oa, .int .i64 ob, .int .i64 oc, .int .i64 od, .int .i64 oe, .string s] 28 (0, 0)) := by rw [← hw1]; exact heap_alloc_eq w _
  have hsz1 : w1.heap.size = w.heap.size + 1 := by rw [← hw1]; simp
  have hB0 : B0 ≤ w.heap.size := by have := h.hB; have := h.blk.lt; omega
  have hlt := h.blk.lt
  have H := Lib.hid h
  have HS1 := Lib.hid (h.below hb1)
  have HX1 := Lib.hid (cells_at hx1)
  have HXB := Lib.hid hx1
  have HSZ1 := Lib.hid hsz1
  have HB1 := Lib.hid hb1
  have HW1 := Lib.hid hw1
  have HG1 := Lib.hid (hg.below hb1)
  clear hb1 hx1 hsz1 h hw1 hg
  have hnk : ¬ ownKind 5 := by decide
  have HCON := Lib.hid (owner_none b w1 ⟨5, x, oa, ob, oc, od, oe, s⟩ hnk)
  clear hnk
  unfold Sop.v at *
  go_enter Tryz.func10, Tryz.ntmps10
  go_wp2_with fail
  rw [HW1.out]
  refine HCON.out.mono ?_
  rintro e w2 ⟨rfl, hb2⟩
  have hS2 := HS1.out.below hb2
  have x0 : w2.cell? ⟨w.heap.size, 0, none⟩ = some (.int .i64 5) := (hb2.cell (by have := HSZ1.out; simp; omega)).trans (HX1.out 0)
  obtain ⟨a6, c6, e6, hk6⟩ := hS2.m6
  have mn := hS2.mn
  have y1 : w2.cell? ⟨b, 1, none⟩ = some (.int .i64 d.m.kind) := by rw [← hS2.m1]; exact hS2.blk.cell (by omega)
  have y2 : w2.cell? ⟨b, 2, none⟩ = some (.int .i64 d.m.frm) := by rw [← hS2.m2]; exact hS2.blk.cell (by omega)
  have y3 : w2.cell? ⟨b, 3, none⟩ = some (.int .i64 d.m.inc) := by rw [← hS2.m3]; exact hS2.blk.cell (by omega)
  have y4 : w2.cell? ⟨b, 4, none⟩ = some (.int .i64 d.m.seq) := by rw [← hS2.m4]; exact hS2.blk.cell (by omega)
  have y5 : w2.cell? ⟨b, 5, none⟩ = some (.int .i64 d.m.tgt) := by rw [← hS2.m5]; exact hS2.blk.cell (by omega)
  have y6 : w2.cell? ⟨b, 6, none⟩ = some (.slice a6 d.m.ups.length c6) := by rw [← e6]; exact hS2.blk.cell (by omega)
  have henc := Lib.hid (encoded_any d.m a6 d.m.ups.length c6 w2 rfl (by omega) hk6.1 (HG1.out.below hb2))
  have HS2 := Lib.hid hS2
  have HB2 := Lib.hid (HB1.out.trans (hb2.mono HB1.out.size))
  clear hb2 hS2 e6 hk6
  go_wp2_with fail
  refine henc.out.mono ?_
  rintro e w3 ⟨S, rfl, hSS, hb3⟩
  have hS3 := HS2.out.below hb3
  have HB3 := Lib.hid (HB2.out.trans (hb3.mono HB2.out.size))
  obtain ⟨ta, tc, e0⟩ := hS3.t0
  obtain ⟨m, hm⟩ : ∃ m, d.ts.length = m := ⟨_, rfl⟩
  have htn := hS3.tn
  rw [hm] at e0 htn
  have c0 : w3.cell? ⟨b, 0, none⟩ = some (.slice ta m tc) := by rw [← e0]; exact hS3.blk.cell (by omega)
  have fr0 := hS3.blk.free 0
  have htr := hS3.tr
  rw [e0, hm] at htr
  have hBw : B0 ≤ w3.heap.size := by have := HB3.out.size; omega
  have ca : ∀ o, (w3.alloc o).cell? ⟨b, 0, none⟩ = some (.slice ta m tc) := fun o => by rw [World.cell?_alloc_lt _ _ _ (World.block_lt_of_cell? _ _ c0)]; exact c0
  have hnew := cells_new w3 [.string S] 9 (n := w3.heap.size) rfl
  have HRW := Lib.hid (htr.alloc (.cells #[.string S] 9))
  have HNEW : Hid (∀ j u, [Value.string S][j]? = some u → (w3.alloc (.cells #[.string S] 9)).cell? ((⟨w3.heap.size, 0, none⟩ : Addr).add j) = some u) := hnew
  have HM := Lib.hid hm
  have E0 := Lib.hid e0
  have HS3 := Lib.hid hS3
  have k3 : m + 1 ≤ maxLen := by unfold maxLen; omega
  have K3 := Lib.hid k3
  have hSz : S.size ≤ 16384 := by omega
  have HSS := Lib.hid hSz
  obtain ⟨i0, hi, hz0, hz1, hz2⟩ := info_parts info_string
  clear hm e0 htr hnew k3 hS3 hSz hb3 y1 y2 y3 y4 y5 y6 hSS
  go_wp2_with (at_builtin; go_loud (refine wpList_append_to _ rfl _ _ 30 rfl B0 9 i0 _ 1 16 Tryz.underlying30 hi hz0 hz1 hz2 rfl (by decide) (.slice ta m tc) m _ rfl HRW.out ⟨w3.heap.size, 0, none⟩ 1 1 _ rfl rfl HNEW.out (by simp [Value.oneCell']) (by omega) K3.out (by omega) (by simp; omega) ?_))
  intro g gc w4 hl4 hto4
  obtain ⟨ct, ft, hS4, hC4⟩ := HS3.out.text HSS.out ((Below.refl _ _).alloc (Nat.le_refl _) (.cells #[.string S] 9)) (by rw [HM.out]; exact hl4) (by rw [E0.out]; exact hto4)
  have HS4 := Lib.hid hS4
  have HC4 := Lib.hid hC4
  rw [HM.out] at HS4 HC4
  rw [E0.out] at ct
  clear hS4 hC4 hl4 hto4
  go_wp2
  go_ret
  exact ⟨rfl, _, _, HS4.out.mono (by omega), upd_other _ _ _ (by omega), Below.andChg HB3.out HC4.out⟩
end Go.Proofs.YtfngdplkcppabaaGreatDoor
